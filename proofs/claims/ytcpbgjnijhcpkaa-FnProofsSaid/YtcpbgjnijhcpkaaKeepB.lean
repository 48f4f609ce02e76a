/-
  A frame in which only one block of the caller's may turn, and an append of a row with that frame.
-/
import Derived.Test.YtcpbgjnijhcpkaaAppII
namespace Go.Proofs.Ytcpbgjnijhcpkaa
open Go.RowKit
set_option linter.unusedVariables false
set_option maxRecDepth 100000

/-- r lies where v lay, or in new memory -/
def BlkOk (w : World) (v r : Value) : Prop := r.ownBlock = v.ownBlock ∨ ∀ p, r.ownBlock = some p → w.heap.size ≤ p
theorem BlkOk.new {w w' : World} {v r : Value} {hi : Nat} {zs : List Int} (h : OwnI w' w.heap.size hi r zs) : BlkOk w v r := .inr fun p hp => (h.own.row.lt p hp).1
/-! ### Only one block of the caller's may turn -/
structure KeepB (w w' : World) (v : Value) : Prop where
  os : w'.os = w.os
  tape : w'.tape = w.tape
  output : w'.output = w.output
  size : w.heap.size ≤ w'.heap.size
  block : ∀ k, k < w.heap.size → v.ownBlock ≠ some k → w'.heap[k]? = w.heap[k]?
theorem KeepB.of_below {w w' : World} (v : Value) (h : Below w.heap.size w w') : KeepB w w' v := ⟨h.os, h.tape, h.output, h.size, fun k hk _ => h.block k hk⟩
theorem KeepB.below {w w' : World} {v : Value} {B : Nat} (h : KeepB w w' v) (hw : B ≤ w.heap.size) (hv : ∀ p, v.ownBlock = some p → B ≤ p) : Below B w w' := ⟨h.os, h.tape, h.output, h.size, fun k hk => h.block k (by omega) (fun e => by have := hv k e; omega)⟩
theorem KeepB.trans {w w1 w2 : World} {v v1 : Value} (h : KeepB w w1 v) (h1 : KeepB w1 w2 v1) (hb : v1.ownBlock = v.ownBlock ∨ ∀ p, v1.ownBlock = some p → w.heap.size ≤ p) : KeepB w w2 v := by
  refine ⟨h1.os.trans h.os, h1.tape.trans h.tape, h1.output.trans h.output, Nat.le_trans h.size h1.size, fun k hk hn => ?_⟩
  rw [h1.block k (Nat.lt_of_lt_of_le hk h.size) (fun e => ?_), h.block k hk hn]
  rcases hb with hb | hb
  · exact hn (by rw [← hb]; exact e)
  · have := hb k e; omega
theorem KeepB.ints {w w' : World} {v u : Value} {lo hi : Nat} {zs : List Int} (h : KeepB w w' v) (hi' : Ints w lo hi u zs) (hh : hi ≤ w.heap.size) (hv : ∀ p, v.ownBlock = some p → p < lo ∨ hi ≤ p) : Ints w' lo hi u zs :=
  hi'.keep h.size fun k h1 h2 h3 => h.block k h3 (fun e => by have := hv k e; omega)
/-- .. a row whose memory lies above all that the slice has. -/
theorem wp_appIIK {w : World} {o : Oper} {a : Act} {K : Act → World → Prop} {Q : Exit → Act → World → Prop} (s x : Operand)
    (ho : o.op = .call { callee := .builtin .append, args := #[s, x], argTypes := #[24, 24] })
    {lo hi mid : Nat} (v : Value) (zss : List (List Int)) (hs : a.eval s = v) (u : Value) (zs : List Int) (e : TypeId) (hv : OwnII w lo hi v zss) (hu : OwnI w mid w.heap.size u zs) (hm : hi ≤ mid) (hlm : lo ≤ mid) (hx : a.eval x = .slice (some ⟨w.heap.size, 0, none⟩) 1 1)
    (hl : zss.length + 1 ≤ 1048576) (hsum : ((zss ++ [zs]).map List.length).sum ≤ 1099511627776) (hlo : lo ≤ w.heap.size)
    (h : ∀ v' w', OwnII w' lo w'.heap.size v' (zss ++ [zs]) → (∀ k, k < w.heap.size → v.ownBlock ≠ some k → w'.heap[k]? = w.heap[k]?) → Same lo hi w w' → w.heap.size + 1 ≤ w'.heap.size → (v'.ownBlock = v.ownBlock ∨ v'.ownBlock = some (w.heap.size + 1)) → K (a.put o.dst v') w') :
    o.wp Try.prog a (w.alloc (.cells #[u] e)) K Q := by
  obtain ⟨vs, h1, h2, h3, h4, h5⟩ := hv.ex
  have hone : u.oneCell' = true := by
    rcases hu.rowOf with ⟨rfl, _⟩ | ⟨g, cap, rfl, _⟩ <;> rfl
  refine wp_app1V s x ho v zss.length vs hs u hone e h2 hx hl hlo fun v' w' ho' hkeep hsame hsz hblk => ?_
  have hub := fun p (hp : u.ownBlock = some p) => hu.own.row.lt p hp
  have hvb := fun p (hp : v.ownBlock = some p) => h2.blk p hp
  have hg1 : ∀ i, i < zss.length → (vs ++ [u]).getD i undef = vs.getD i undef := fun i hi => by
    simp only [List.getD, List.getElem?_append_left (show i < vs.length by omega)]
  have hg2 : (vs ++ [u]).getD zss.length undef = u := by
    simp only [List.getD, List.getElem?_append_right (show vs.length ≤ zss.length by omega), h1, Nat.sub_self]; rfl
  have hlen : (zss ++ [zs]).length = zss.length + 1 := by simp
  have hsz0 : w.heap.size ≤ w'.heap.size := by omega
  refine h v' w' ⟨⟨vs ++ [u], by simp [h1], by rw [hlen]; exact ho', ?_, ?_, ?_⟩, hsum⟩ hkeep hsame hsz hblk
  · intro i hi
    rw [hlen] at hi
    by_cases hil : i < zss.length
    · rw [hg1 i hil, List.getElem_append_left hil]
      refine ((h3 i hil).stay hsz0 fun p hp => hkeep p (by have := (h3 i hil).own.blk p hp; have := h2.hsz; omega) fun e2 => h5 i hil p hp e2).mono (Nat.le_refl _) (by have := h2.hsz; omega) (Nat.le_refl _)
    · obtain rfl : i = zss.length := by omega
      rw [hg2]
      simp only [List.getElem_append_right (Nat.le_refl _), Nat.sub_self, List.getElem_cons_zero]
      refine (hu.stay hsz0 fun p hp => hkeep p (hub p hp).2 fun e2 => ?_).mono hlm hsz0 (Nat.le_refl _)
      have := hvb p e2; have := (hub p hp).1; omega
  · intro i j hij hj p hp
    rw [hlen] at hj
    have hil : i < zss.length := by omega
    rw [hg1 i hil] at hp
    by_cases hjl : j < zss.length
    · rw [hg1 j hjl]; exact h4 i j hij hjl p hp
    · obtain rfl : j = zss.length := by omega
      rw [hg2]
      intro e2
      have := (h3 i hil).own.blk p hp; have := (hub p e2).1; omega
  · intro i hi p hp e2
    rw [hlen] at hi
    by_cases hil : i < zss.length
    · rw [hg1 i hil] at hp
      have hb := (h3 i hil).own.blk p hp
      have hz := h2.hsz
      rcases hblk with hblk | hblk
      · exact h5 i hil p hp (by rw [← hblk]; exact e2)
      · rw [hblk] at e2; cases e2; omega
    · obtain rfl : i = zss.length := by omega
      rw [hg2] at hp
      have hb := hub p hp
      rcases hblk with hblk | hblk
      · have := hvb p (by rw [← hblk]; exact e2); omega
      · rw [hblk] at e2; cases e2; omega
theorem wpList_appIIK {w : World} {ops : Array Oper} {rest : List Oper} {o : Oper} {a : Act} {Q : Exit → Act → World → Prop} (hgd : o.guard = none) (s x : Operand)
    (ho : o.op = .call { callee := .builtin .append, args := #[s, x], argTypes := #[24, 24] })
    {lo hi mid : Nat} (v : Value) (zss : List (List Int)) (hs : a.eval s = v) (u : Value) (zs : List Int) (e : TypeId) (hv : OwnII w lo hi v zss) (hu : OwnI w mid w.heap.size u zs) (hm : hi ≤ mid) (hlm : lo ≤ mid) (hx : a.eval x = .slice (some ⟨w.heap.size, 0, none⟩) 1 1)
    (hl : zss.length + 1 ≤ 1048576) (hsum : ((zss ++ [zs]).map List.length).sum ≤ 1099511627776) (hlo : lo ≤ w.heap.size)
    (h : ∀ v' w', OwnII w' lo w'.heap.size v' (zss ++ [zs]) → (∀ k, k < w.heap.size → v.ownBlock ≠ some k → w'.heap[k]? = w.heap[k]?) → Same lo hi w w' → w.heap.size + 1 ≤ w'.heap.size → (v'.ownBlock = v.ownBlock ∨ v'.ownBlock = some (w.heap.size + 1)) → wpList Try.prog ops Q rest (a.put o.dst v') w') :
    wpList Try.prog ops Q (o :: rest) a (w.alloc (.cells #[u] e)) :=
  wpList_plain hgd fun _ hK => wp_appIIK s x ho v zss hs u zs e hv hu hm hlm hx hl hsum hlo fun v' w' h1 h2 h3 h4 h5 => hK _ _ (h v' w' h1 h2 h3 h4 h5)
theorem sum_snoc (P : List (List Int)) (c : List Int) : ((P ++ [c]).map List.length).sum = (P.map List.length).sum + c.length := by simp
theorem OwnII.ge {w : World} {lo hi : Nat} {v : Value} {zss : List (List Int)} (h : OwnII w lo hi v zss) : ∀ p, v.ownBlock = some p → lo ≤ p ∧ p < hi := by
  obtain ⟨vs, h1, h2, _⟩ := h.ex
  exact fun p hp => ⟨(h2.row.lt p hp).1, h2.blk p hp⟩
end Go.Proofs.Ytcpbgjnijhcpkaa
