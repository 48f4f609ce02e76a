/-
  Rows of the call's own, with the values that stand for them; they grow beside other slices.
-/
import Derived.Test.YtcpbgjnijhcpkaaAppII
import Derived.Test.YtcpbgjnijhcpkaaOwn2B
namespace Go.Proofs.Ytcpbgjnijhcpkaa
open Go.RowKit
set_option linter.unusedVariables false
set_option maxRecDepth 100000

structure OwnIIV (w : World) (lo hi : Nat) (v : Value) (zss : List (List Int)) (vs : List Value) : Prop where
  vlen : vs.length = zss.length
  own : Own w lo hi 34 1 v zss.length vs
  rows : ∀ i (h : i < zss.length), OwnI w lo hi (vs.getD i undef) zss[i]
  pair : ∀ i j, i < j → j < zss.length → ∀ p, (vs.getD i undef).ownBlock = some p → (vs.getD j undef).ownBlock ≠ some p
  out : ∀ i, i < zss.length → ∀ p, (vs.getD i undef).ownBlock = some p → v.ownBlock ≠ some p
  len : (zss.map List.length).sum ≤ 1099511627776
theorem OwnIIV.toII {w : World} {lo hi : Nat} {v : Value} {zss : List (List Int)} {vs : List Value} (h : OwnIIV w lo hi v zss vs) : OwnII w lo hi v zss := ⟨⟨vs, h.vlen, h.own, h.rows, h.pair, h.out⟩, h.len⟩
theorem OwnIIV.nilNew (w : World) : OwnIIV (w.alloc (.cells #[] 34)) w.heap.size (w.heap.size + 1) (.slice (some ⟨w.heap.size, 0, none⟩) 0 0) [] [] :=
  ⟨rfl, ⟨World.ownsRow_lit w #[] 0 (Nat.le_refl _) (by simp [maxLen]) (by simp), fun k e => by simp [Value.ownBlock] at e; omega, by simp⟩, fun i h => by simp at h, fun i j _ h => by simp at h, fun i h => by simp at h, by simp⟩
theorem OwnIIV.mono {w : World} {lo hi lo' hi' : Nat} {v : Value} {zss : List (List Int)} {vs : List Value} (h : OwnIIV w lo hi v zss vs) (hl : lo' ≤ lo) (hh : hi ≤ hi') (hw : hi' ≤ w.heap.size) : OwnIIV w lo' hi' v zss vs :=
  ⟨h.vlen, h.own.mono hl hh hw, fun i hi => (h.rows i hi).mono hl hh hw, h.pair, h.out, h.len⟩
theorem OwnIIV.below {w w' : World} {lo hi B : Nat} {v : Value} {zss : List (List Int)} {vs : List Value} (h : OwnIIV w lo hi v zss vs) (hb : Below B w w') (hB : hi ≤ B) : OwnIIV w' lo hi v zss vs :=
  ⟨h.vlen, h.own.below hb hB, fun i hi => (h.rows i hi).below hb hB, h.pair, h.out, h.len⟩
theorem OwnIIV.stay {w w' : World} {lo hi : Nat} {v : Value} {zss : List (List Int)} {vs : List Value} (h : OwnIIV w lo hi v zss vs) (hs : w.heap.size ≤ w'.heap.size)
    (hb : ∀ k, (v.ownBlock = some k ∨ ∃ i, i < zss.length ∧ (vs.getD i undef).ownBlock = some k) → w'.heap[k]? = w.heap[k]?) : OwnIIV w' lo hi v zss vs :=
  ⟨h.vlen, h.own.stay hs (fun k hk => hb k (.inl hk)), fun i hi => (h.rows i hi).stay hs (fun k hk => hb k (.inr ⟨i, hi, hk⟩)), h.pair, h.out, h.len⟩
theorem OwnIIV.lt {w : World} {lo hi : Nat} {v : Value} {zss : List (List Int)} {vs : List Value} (h : OwnIIV w lo hi v zss vs) : ∀ k, (v.ownBlock = some k ∨ ∃ i, i < zss.length ∧ (vs.getD i undef).ownBlock = some k) → k < hi := by
  rintro k (hk | ⟨i, hi, hk⟩)
  · exact h.own.blk k hk
  · exact (h.rows i hi).own.blk k hk
/-- u shares no block with rows -/
def Beside (u v : Value) (zss : List (List Int)) (vs : List Value) : Prop := ∀ k, (v.ownBlock = some k ∨ ∃ i, i < zss.length ∧ (vs.getD i undef).ownBlock = some k) → u.ownBlock ≠ some k
theorem Beside.row {u v v' : Value} {zss : List (List Int)} {zs : List Int} {vs : List Value} {x : Value} {B n : Nat} (h : Beside u v zss vs) (hl : vs.length = zss.length) (hu : ∀ p, u.ownBlock = some p → p < B) (hx : ∀ p, x.ownBlock = some p → B ≤ p) (hn : B ≤ n)
    (hv : v'.ownBlock = v.ownBlock ∨ v'.ownBlock = some (n + 1)) : Beside u v' (zss ++ [zs]) (vs ++ [x]) := by
  rintro k (hk | ⟨i, hi, hk⟩) hu'
  · rcases hv with hv | hv
    · exact h k (.inl (by rw [← hv]; exact hk)) hu'
    · rw [hv] at hk; cases hk; have := hu _ hu'; omega
  · by_cases hil : i < zss.length
    · refine h k (.inr ⟨i, hil, ?_⟩) hu'
      rw [← hk]; simp only [List.getD, List.getElem?_append_left (show i < vs.length by omega)]
    · obtain rfl : i = zss.length := by simp at hi; omega
      have e : (vs ++ [x]).getD zss.length undef = x := by
        simp only [List.getD, List.getElem?_append_right (show vs.length ≤ zss.length by omega), hl, Nat.sub_self]; rfl
      rw [e] at hk
      have := hx _ hk; have := hu _ hu'; omega
theorem Beside.grow {u u' v : Value} {zss : List (List Int)} {vs : List Value} {B : Nat} (h : Beside u v zss vs) (hlt : ∀ k, (v.ownBlock = some k ∨ ∃ i, i < zss.length ∧ (vs.getD i undef).ownBlock = some k) → k < B) (hu : u'.ownBlock = u.ownBlock ∨ u'.ownBlock = some (B + 1)) : Beside u' v zss vs := by
  intro k hk hu'
  rcases hu with hu | hu
  · exact h k hk (by rw [← hu]; exact hu')
  · rw [hu] at hu'; cases hu'; have := hlt _ hk; omega
/-- .. a row whose memory lies above all that the slice has. -/
theorem wp_appIIV {w : World} {o : Oper} {a : Act} {K : Act → World → Prop} {Q : Exit → Act → World → Prop} (s x : Operand)
    (ho : o.op = .call { callee := .builtin .append, args := #[s, x], argTypes := #[24, 24] })
    {lo hi mid : Nat} (v : Value) (zss : List (List Int)) (hs : a.eval s = v) (u : Value) (zs : List Int) (e : TypeId) {vs : List Value} (hv : OwnIIV w lo hi v zss vs) (hu : OwnI w mid w.heap.size u zs) (hm : hi ≤ mid) (hlm : lo ≤ mid) (hx : a.eval x = .slice (some ⟨w.heap.size, 0, none⟩) 1 1)
    (hl : zss.length + 1 ≤ 1048576) (hsum : ((zss ++ [zs]).map List.length).sum ≤ 1099511627776) (hlo : lo ≤ w.heap.size)
    (h : ∀ v' w', OwnIIV w' lo w'.heap.size v' (zss ++ [zs]) (vs ++ [u]) → (∀ k, k < w.heap.size → v.ownBlock ≠ some k → w'.heap[k]? = w.heap[k]?) → Same lo hi w w' → w.heap.size + 1 ≤ w'.heap.size → (v'.ownBlock = v.ownBlock ∨ v'.ownBlock = some (w.heap.size + 1)) → K (a.put o.dst v') w') :
    o.wp Try.prog a (w.alloc (.cells #[u] e)) K Q := by
  obtain ⟨h1, h2, h3, h4, h5, _⟩ := hv
  have hone : u.oneCell' = true := by
    rcases hu.rowOf with ⟨rfl, _⟩ | ⟨g, cap, rfl, _⟩ <;> rfl
  refine wp_app1V s x ho v zss.length vs hs u hone e h2 hx hl hlo fun v' w' ho' hkeep hsame hsz hblk => ?_
  have hub := fun p (hp : u.ownBlock = some p) => hu.own.row.lt p hp
  have hvb := fun p (hp : v.ownBlock = some p) => h2.blk p hp
  have hg1 : ∀ i, i < zss.length → (vs ++ [u]).getD i undef = vs.getD i undef := fun i hi => by
    simp only [List.getD, List.getElem?_append_left (show i < vs.length by omega)]
  have hg2 : (vs ++ [u]).getD zss.length undef = u := by
    simp only [List.getD, List.getElem?_append_right (show vs.length ≤ zss.length by omega), h1, Nat.sub_self]; rfl
  have hlen : (zss ++ [zs]).length = zss.length + 1 := by simp
  have hsz0 : w.heap.size ≤ w'.heap.size := by omega
  refine h v' w' ⟨by simp [h1], by rw [hlen]; exact ho', ?_, ?_, ?_, hsum⟩ hkeep hsame hsz hblk
  · intro i hi
    rw [hlen] at hi
    by_cases hil : i < zss.length
    · rw [hg1 i hil, List.getElem_append_left hil]
      refine ((h3 i hil).stay hsz0 fun p hp => hkeep p (by have := (h3 i hil).own.blk p hp; have := h2.hsz; omega) fun e2 => h5 i hil p hp e2).mono (Nat.le_refl _) (by have := h2.hsz; omega) (Nat.le_refl _)
    · obtain rfl : i = zss.length := by omega
      rw [hg2]
      simp only [List.getElem_append_right (Nat.le_refl _), Nat.sub_self, List.getElem_cons_zero]
      refine (hu.stay hsz0 fun p hp => hkeep p (hub p hp).2 fun e2 => ?_).mono hlm hsz0 (Nat.le_refl _)
      have := hvb p e2; have := (hub p hp).1; omega
  · intro i j hij hj p hp
    rw [hlen] at hj
    have hil : i < zss.length := by omega
    rw [hg1 i hil] at hp
    by_cases hjl : j < zss.length
    · rw [hg1 j hjl]; exact h4 i j hij hjl p hp
    · obtain rfl : j = zss.length := by omega
      rw [hg2]
      intro e2
      have := (h3 i hil).own.blk p hp; have := (hub p e2).1; omega
  · intro i hi p hp e2
    rw [hlen] at hi
    by_cases hil : i < zss.length
    · rw [hg1 i hil] at hp
      have hb := (h3 i hil).own.blk p hp
      have hz := h2.hsz
      rcases hblk with hblk | hblk
      · exact h5 i hil p hp (by rw [← hblk]; exact e2)
      · rw [hblk] at e2; cases e2; omega
    · obtain rfl : i = zss.length := by omega
      rw [hg2] at hp
      have hb := hub p hp
      rcases hblk with hblk | hblk
      · have := hvb p (by rw [← hblk]; exact e2); omega
      · rw [hblk] at e2; cases e2; omega
theorem wpList_appIIV {w : World} {ops : Array Oper} {rest : List Oper} {o : Oper} {a : Act} {Q : Exit → Act → World → Prop} (hgd : o.guard = none) (s x : Operand)
    (ho : o.op = .call { callee := .builtin .append, args := #[s, x], argTypes := #[24, 24] })
    {lo hi mid : Nat} (v : Value) (zss : List (List Int)) (hs : a.eval s = v) (u : Value) (zs : List Int) (e : TypeId) {vs : List Value} (hv : OwnIIV w lo hi v zss vs) (hu : OwnI w mid w.heap.size u zs) (hm : hi ≤ mid) (hlm : lo ≤ mid) (hx : a.eval x = .slice (some ⟨w.heap.size, 0, none⟩) 1 1)
    (hl : zss.length + 1 ≤ 1048576) (hsum : ((zss ++ [zs]).map List.length).sum ≤ 1099511627776) (hlo : lo ≤ w.heap.size)
    (h : ∀ v' w', OwnIIV w' lo w'.heap.size v' (zss ++ [zs]) (vs ++ [u]) → (∀ k, k < w.heap.size → v.ownBlock ≠ some k → w'.heap[k]? = w.heap[k]?) → Same lo hi w w' → w.heap.size + 1 ≤ w'.heap.size → (v'.ownBlock = v.ownBlock ∨ v'.ownBlock = some (w.heap.size + 1)) → wpList Try.prog ops Q rest (a.put o.dst v') w') :
    wpList Try.prog ops Q (o :: rest) a (w.alloc (.cells #[u] e)) :=
  wpList_plain hgd fun _ hK => wp_appIIV s x ho v zss hs u zs e hv hu hm hlm hx hl hsum hlo fun v' w' h1 h2 h3 h4 h5 => hK _ _ (h v' w' h1 h2 h3 h4 h5)
end Go.Proofs.Ytcpbgjnijhcpkaa
