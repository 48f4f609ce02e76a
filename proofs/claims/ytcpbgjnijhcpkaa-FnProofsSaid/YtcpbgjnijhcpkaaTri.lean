/-
  A block of three cells that holds two growing slices of the call's own and a number.
-/
import Derived.Test.YtcpbgjnijhcpkaaUnit
namespace Go.Proofs.Ytcpbgjnijhcpkaa
open Go.RowKit
set_option linter.unusedVariables false
set_option maxRecDepth 100000

structure TriC (w : World) (q : Nat) (t : TypeId) (x y z : Value) : Prop where
  b : w.heap[q]? = some (.cells #[x, y, z] t (0, 0))
section
variable {w w' : World} {q : Nat} {t : TypeId} {x y z : Value}
theorem TriC.lt (h : TriC w q t x y z) : q < w.heap.size := lt_of_block h.b
theorem TriC.c0 (h : TriC w q t x y z) : w.cell? ⟨q, 0, none⟩ = some x := by simp [World.cell?, h.b]
theorem TriC.c1 (h : TriC w q t x y z) : w.cell? ⟨q, 1, none⟩ = some y := by simp [World.cell?, h.b]
theorem TriC.c2 (h : TriC w q t x y z) : w.cell? ⟨q, 2, none⟩ = some z := by simp [World.cell?, h.b]
theorem TriC.f0 (h : TriC w q t x y z) : w.frozen? ⟨q, 0, none⟩ = false := by simp [World.frozen?, h.b]
theorem TriC.f1 (h : TriC w q t x y z) : w.frozen? ⟨q, 1, none⟩ = false := by simp [World.frozen?, h.b]
theorem TriC.f2 (h : TriC w q t x y z) : w.frozen? ⟨q, 2, none⟩ = false := by simp [World.frozen?, h.b]
theorem TriC.keep (h : TriC w q t x y z) (hb : w'.heap[q]? = w.heap[q]?) : TriC w' q t x y z := ⟨by rw [hb]; exact h.b⟩
theorem TriC.below {B : Nat} (h : TriC w q t x y z) (hb : Below B w w') (hB : q < B) : TriC w' q t x y z := h.keep (hb.block q hB)
theorem TriC.drew (h : TriC w q t x y z) (hd : Drew w w') : TriC w' q t x y z := h.keep (by rw [hd.heap])
theorem TriC.same {l r : Nat} (h : TriC w q t x y z) (hs : Same l r w w') (hB : q < l ∨ r ≤ q) : TriC w' q t x y z := h.keep (hs.block q h.lt (by omega))
theorem TriC.alloc (h : TriC w q t x y z) (o : Obj) : TriC (w.alloc o) q t x y z := h.keep (Below.heap_alloc _ _ _ h.lt)
theorem TriC.set0 (h : TriC w q t x y z) (u : Value) : TriC (w.setCell ⟨q, 0, none⟩ u) q t u y z := by
  have hlt := h.lt
  have h' : w.heap[q] = .cells #[x, y, z] t (0, 0) := by simpa [Array.getElem?_eq_getElem hlt] using h.b
  refine ⟨?_⟩
  show (w.heap.modify q _)[q]? = _
  rw [Array.getElem?_eq_getElem (by simpa using hlt), Array.getElem_modify_self, h']
  rfl
theorem TriC.set1 (h : TriC w q t x y z) (u : Value) : TriC (w.setCell ⟨q, 1, none⟩ u) q t x u z := by
  have hlt := h.lt
  have h' : w.heap[q] = .cells #[x, y, z] t (0, 0) := by simpa [Array.getElem?_eq_getElem hlt] using h.b
  refine ⟨?_⟩
  show (w.heap.modify q _)[q]? = _
  rw [Array.getElem?_eq_getElem (by simpa using hlt), Array.getElem_modify_self, h']
  rfl
theorem TriC.set2 (h : TriC w q t x y z) (u : Value) : TriC (w.setCell ⟨q, 2, none⟩ u) q t x y u := by
  have hlt := h.lt
  have h' : w.heap[q] = .cells #[x, y, z] t (0, 0) := by simpa [Array.getElem?_eq_getElem hlt] using h.b
  refine ⟨?_⟩
  show (w.heap.modify q _)[q]? = _
  rw [Array.getElem?_eq_getElem (by simpa using hlt), Array.getElem_modify_self, h']
  rfl
theorem TriC.new (w : World) (t : TypeId) (x y z : Value) : TriC (w.alloc (.cells #[x, y, z] t)) w.heap.size t x y z := ⟨heap_alloc_new w _⟩
theorem TriC.other (h : TriC w q t x y z) {p : Addr} (hp : p.block ≠ q) (u : Value) : TriC (w.setCell p u) q t x y z := h.keep (Below.heap_setCell _ _ _ _ (Ne.symm hp))
end
theorem OwnN.shape {w : World} {lo hi : Nat} {v : Value} {zs : List Int} (h : OwnN w lo hi v zs) : ∃ a cap, v = .slice a zs.length cap := by
  obtain ⟨a, cap, e, _⟩ := h.rd.out; exact ⟨a, cap, e⟩
theorem OwnN.shape1 {w : World} {lo hi : Nat} {v : Value} {zs : List Int} {z : Int} (h : OwnN w lo hi v (zs ++ [z])) : ∃ a cap, v = .slice a (zs.length + 1) cap := by
  obtain ⟨a, cap, e, _⟩ := h.rd.out; exact ⟨a, cap, by rw [e, List.length_append]; rfl⟩

/-- block q holds two slices that lie in blocks of their own -/
structure UnitC (w : World) (lo q : Nat) (t : TypeId) (vk vb : Value) (kn why : List Int) (wrong : Int) : Prop where
  cell : TriC w q t vk vb (.int .i64 wrong)
  kn : OwnI w lo w.heap.size vk kn
  why : OwnN w lo w.heap.size vb why
  kq : vk.ownBlock ≠ some q
  bq : vb.ownBlock ≠ some q
  apart : ∀ p, vk.ownBlock = some p → vb.ownBlock ≠ some p
section
variable {w w' : World} {lo q : Nat} {t : TypeId} {vk vb v2 : Value} {kn why : List Int} {wrong x : Int}
theorem UnitC.midK (h : UnitC w lo q t vk vb kn why wrong) (hk : ∀ k, k < w.heap.size → vk.ownBlock ≠ some k → w'.heap[k]? = w.heap[k]?) : TriC w' q t vk vb (.int .i64 wrong) := h.cell.keep (hk q h.cell.lt h.kq)
theorem UnitC.midB (h : UnitC w lo q t vk vb kn why wrong) (hk : ∀ k, k < w.heap.size → vb.ownBlock ≠ some k → w'.heap[k]? = w.heap[k]?) : TriC w' q t vk vb (.int .i64 wrong) := h.cell.keep (hk q h.cell.lt h.bq)
theorem UnitC.addK (h : UnitC w lo q t vk vb kn why wrong) (ho : OwnI w' lo w'.heap.size v2 (kn ++ [x])) (hk : ∀ k, k < w.heap.size → vk.ownBlock ≠ some k → w'.heap[k]? = w.heap[k]?) {n : Nat} (hn : w.heap.size ≤ n) (hz : n ≤ w'.heap.size) (hb : v2.ownBlock = vk.ownBlock ∨ v2.ownBlock = some n) :
    UnitC (w'.setCell ⟨q, 0, none⟩ v2) lo q t v2 vb (kn ++ [x]) why wrong := by
  have hql := h.cell.lt
  have hS := set1_same w' q 0 v2
  have hq2 : v2.ownBlock ≠ some q := by
    rcases hb with hb | hb
    · rw [hb]; exact h.kq
    · rw [hb]; intro e; injection e with e; omega
  have hsz : (w'.setCell ⟨q, 0, none⟩ v2).heap.size = w'.heap.size := by simp [World.setCell]
  have hbl : ∀ k, k ≠ q → (w'.setCell ⟨q, 0, none⟩ v2).heap[k]? = w'.heap[k]? := fun k hk' => Below.heap_setCell _ _ _ _ (by simpa using hk')
  refine ⟨(h.midK hk).set0 v2, ?_, ?_, hq2, h.bq, fun p hp => ?_⟩
  · have := (ho.stay2 (w' := w'.setCell ⟨q, 0, none⟩ v2) (by omega) fun k hk' => hbl k (fun e => hq2 (by rw [hk', e])))
    rw [hsz]; exact this
  · have h1 := h.why.beside (w' := w') (by omega) (by omega) hk (fun p hp e => h.apart p e hp)
    have := (h1.stay2 (w' := w'.setCell ⟨q, 0, none⟩ v2) (by omega) fun k hk' => hbl k (fun e => h.bq (by rw [hk', e])))
    rw [hsz]; exact this
  · rcases hb with hb | hb
    · exact h.apart p (by rw [← hb]; exact hp)
    · intro e
      have := h.why.own.blk p e
      rw [hb] at hp; injection hp with hp; omega
theorem UnitC.addB (h : UnitC w lo q t vk vb kn why wrong) (ho : OwnN w' lo w'.heap.size v2 (why ++ [x])) (hk : ∀ k, k < w.heap.size → vb.ownBlock ≠ some k → w'.heap[k]? = w.heap[k]?) {n : Nat} (hn : w.heap.size ≤ n) (hz : n ≤ w'.heap.size) (hb : v2.ownBlock = vb.ownBlock ∨ v2.ownBlock = some n) :
    UnitC (w'.setCell ⟨q, 1, none⟩ v2) lo q t vk v2 kn (why ++ [x]) wrong := by
  have hql := h.cell.lt
  have hq2 : v2.ownBlock ≠ some q := by
    rcases hb with hb | hb
    · rw [hb]; exact h.bq
    · rw [hb]; intro e; injection e with e; omega
  have hsz : (w'.setCell ⟨q, 1, none⟩ v2).heap.size = w'.heap.size := by simp [World.setCell]
  have hbl : ∀ k, k ≠ q → (w'.setCell ⟨q, 1, none⟩ v2).heap[k]? = w'.heap[k]? := fun k hk' => Below.heap_setCell _ _ _ _ (by simpa using hk')
  refine ⟨(h.midB hk).set1 v2, ?_, ?_, h.kq, hq2, fun p hp => ?_⟩
  · have h1 := h.kn.beside (w' := w') (by omega) (by omega) hk (fun p hp e => h.apart p hp e)
    have := (h1.stay2 (w' := w'.setCell ⟨q, 1, none⟩ v2) (by omega) fun k hk' => hbl k (fun e => h.kq (by rw [hk', e])))
    rw [hsz]; exact this
  · have := (ho.stay2 (w' := w'.setCell ⟨q, 1, none⟩ v2) (by omega) fun k hk' => hbl k (fun e => hq2 (by rw [hk', e])))
    rw [hsz]; exact this
  · rcases hb with hb | hb
    · rw [hb]; exact h.apart p hp
    · intro e
      have := h.kn.own.blk p hp
      rw [hb] at e; injection e with e; omega
theorem UnitC.drew (h : UnitC w lo q t vk vb kn why wrong) (hd : Drew w w') : UnitC w' lo q t vk vb kn why wrong := by
  refine ⟨h.cell.drew hd, ?_, ?_, h.kq, h.bq, h.apart⟩
  · have := h.kn.drew hd; rw [hd.heap]; exact this
  · have := h.why.drew hd; rw [hd.heap]; exact this
theorem UnitC.alloc (h : UnitC w lo q t vk vb kn why wrong) (o : Obj) : UnitC (w.alloc o) lo q t vk vb kn why wrong :=
  ⟨h.cell.alloc o, (h.kn.alloc o).mono (Nat.le_refl _) (by simp) (Nat.le_refl _), (h.why.alloc o).mono (Nat.le_refl _) (by simp) (Nat.le_refl _), h.kq, h.bq, h.apart⟩
theorem UnitC.setW (h : UnitC w lo q t vk vb kn why wrong) (y : Int) : UnitC (w.setCell ⟨q, 2, none⟩ (.int .i64 y)) lo q t vk vb kn why y := by
  have hsz : (w.setCell ⟨q, 2, none⟩ (.int .i64 y)).heap.size = w.heap.size := by simp [World.setCell]
  have hbl : ∀ k, k ≠ q → (w.setCell ⟨q, 2, none⟩ (.int .i64 y)).heap[k]? = w.heap[k]? := fun k hk' => Below.heap_setCell _ _ _ _ (by simpa using hk')
  refine ⟨h.cell.set2 _, ?_, ?_, h.kq, h.bq, h.apart⟩
  · have := (h.kn.stay2 (w' := w.setCell ⟨q, 2, none⟩ (.int .i64 y)) (by omega) fun k hk' => hbl k (fun e => h.kq (by rw [hk', e])))
    rw [hsz]; exact this
  · have := (h.why.stay2 (w' := w.setCell ⟨q, 2, none⟩ (.int .i64 y)) (by omega) fun k hk' => hbl k (fun e => h.bq (by rw [hk', e])))
    rw [hsz]; exact this
/-- how long the slice is that lies in the cell -/
def lenAt (w : World) (p : Addr) : Nat := match w.cell? p with
  | some (.slice _ n _) => n
  | _ => 0
theorem UnitC.len (h : UnitC w lo q t vk vb kn why wrong) : lenAt w ⟨q, 0, none⟩ = kn.length := by
  obtain ⟨a, c, e⟩ := h.kn.shape
  rw [lenAt, h.cell.c0, e]
end
/-- an element appended at a step of a drawn region; what other slices of the call's own hold stays -/
theorem step_appIsK {w : World} {ops : Array Oper} {o : Oper} {a : Act} {K : Act → World → Prop} {Q : Exit → Act → World → Prop} {E : Prop} (hgd : o.guard = none) (s x : Operand)
    (ho : o.op = .call { callee := .builtin .append, args := #[s, x], argTypes := #[34, 34] })
    {lo hi l h : Nat} (v : Value) (xs : List Int) (hs : a.eval s = v) (hv : OwnI w lo hi v xs) (u : Value) (ys : List Int) (hx : a.eval x = u) (hy : Ints w l h u ys)
    (hl : xs.length + ys.length ≤ 1099511627776) (hlo : lo ≤ w.heap.size)
    (hK : ∀ v' w', OwnI w' lo w'.heap.size v' (xs ++ ys) → (∀ k, k < w.heap.size → v.ownBlock ≠ some k → w'.heap[k]? = w.heap[k]?) → Same lo hi w w' → w.heap.size ≤ w'.heap.size → (v'.ownBlock = v.ownBlock ∨ v'.ownBlock = some w.heap.size) → K (a.put o.dst v') w') :
    if Region.wanted o (yielded ops a.tmps) = true then Oper.wp Try.prog o a w K Q else E := by
  have hw : Region.wanted o (yielded ops a.tmps) = true := by simp [Region.wanted, hgd]
  rw [if_pos hw]
  obtain ⟨p, q, hn, hpq⟩ := hv.narrow2
  have hz := hv.own.hsz
  have hn2 := hn.own.hsz
  refine wp_appIs s x ho v xs hs hn u ys hx hy hl (by rcases hpq with ⟨_, rfl, _⟩ | ⟨_, rfl, h1, h2⟩ <;> omega) ?_
  intro v' w' h1 h2 h3 h4
  have hkeep : ∀ k, k < w.heap.size → v.ownBlock ≠ some k → w'.heap[k]? = w.heap[k]? := by
    intro k hk hne
    refine h2.block k hk fun hx' => ?_
    rcases hpq with ⟨_, rfl, rfl⟩ | ⟨e1, rfl, _, _⟩
    · omega
    · exact hne (by rw [e1]; congr 1; omega)
  refine hK v' w' (h1.widen2 (Nat.le_refl _) fun k hk => ⟨?_, (h1.own.row.lt k hk).2⟩) hkeep ?_ h3 h4
  · rcases h4 with h4 | h4
    · rw [h4] at hk; exact (hv.own.row.lt k hk).1
    · rw [h4] at hk; cases hk; omega
  · rcases hpq with ⟨_, rfl, rfl⟩ | ⟨e1, rfl, g1, g2⟩
    · exact ⟨h2.os, h2.tape, h2.output, h2.size, fun k hk _ => h2.block k hk (by omega)⟩
    · exact h2.mono g1 (by omega)
theorem oneInt (w : World) (x : Int) (hx : I64 x) (t : TypeId) : Ints (w.alloc (.cells #[.int .i64 x] t)) w.heap.size (w.heap.size + 1) (.slice (some ⟨w.heap.size, 0, none⟩) 1 1) [x] :=
  ⟨⟨some ⟨w.heap.size, 0, none⟩, 1, rfl, Nat.le_refl _, by omega, .inr ⟨w.heap.size, 0, rfl, Nat.le_refl _, by omega, by simp, fun i hi => by
    have : i = 0 := by simp at hi; omega
    subst this
    rw [cell_new1]; rfl⟩⟩, by simpa using hx⟩
end Go.Proofs.Ytcpbgjnijhcpkaa
