/-
  ProveNo: the append with its finer frame, and what a proof's function leaves (the appends are written by wip/gen/prove.py out of XAppII).
-/
import Derived.Test.YtdeelgnfnhdklaaProveP
import Derived.Test.YtdeelgnfnhdklaaAppII
namespace Go.Proofs.Ytdeelgnfnhdklaa
open Go.RowKit
set_option linter.unusedVariables false

/-- .. a row whose memory lies above all that the slice has. -/
theorem wp_appIIK {w : World} {o : Oper} {a : Act} {K : Act → World → Prop} {Q : Exit → Act → World → Prop} (s x : Operand)
    (ho : o.op = .call { callee := .builtin .append, args := #[s, x], argTypes := #[22, 22] })
    {lo hi mid : Nat} (v : Value) (zss : List (List Int)) (hs : a.eval s = v) (u : Value) (zs : List Int) (e : TypeId) (hv : OwnII w lo hi v zss) (hu : OwnI w mid w.heap.size u zs) (hm : hi ≤ mid) (hlm : lo ≤ mid) (hx : a.eval x = .slice (some ⟨w.heap.size, 0, none⟩) 1 1)
    (hl : zss.length + 1 ≤ 1048576) (hsum : ((zss ++ [zs]).map List.length).sum ≤ 1099511627776) (hlo : lo ≤ w.heap.size)
    (h : ∀ v' w', OwnII w' lo w'.heap.size v' (zss ++ [zs]) → (∀ k, k < w.heap.size → v.ownBlock ≠ some k → w'.heap[k]? = w.heap[k]?) → Same lo hi w w' → w.heap.size + 1 ≤ w'.heap.size → (v'.ownBlock = v.ownBlock ∨ v'.ownBlock = some (w.heap.size + 1)) → K (a.put o.dst v') w') :
    o.wp Try.prog a (w.alloc (.cells #[u] e)) K Q := by
  obtain ⟨vs, h1, h2, h3, h4, h5⟩ := hv.ex
  have hone : u.oneCell' = true := by
    rcases hu.rowOf with ⟨rfl, _⟩ | ⟨g, cap, rfl, _⟩ <;> rfl
  refine wp_app1V s x ho v zss.length vs hs u hone e h2 hx hl hlo fun v' w' ho' hkeep hsame hsz hblk => ?_
  have hub := fun p (hp : u.ownBlock = some p) => hu.own.row.lt p hp
  have hvb := fun p (hp : v.ownBlock = some p) => h2.blk p hp
  have hg1 : ∀ i, i < zss.length → (vs ++ [u]).getD i undef = vs.getD i undef := fun i hi => by
    simp only [List.getD, List.getElem?_append_left (show i < vs.length by omega)]
  have hg2 : (vs ++ [u]).getD zss.length undef = u := by
    simp only [List.getD, List.getElem?_append_right (show vs.length ≤ zss.length by omega), h1, Nat.sub_self]; rfl
  have hlen : (zss ++ [zs]).length = zss.length + 1 := by simp
  have hsz0 : w.heap.size ≤ w'.heap.size := by omega
  refine h v' w' ⟨⟨vs ++ [u], by simp [h1], by rw [hlen]; exact ho', ?_, ?_, ?_⟩, hsum⟩ hkeep hsame hsz hblk
  · intro i hi
    rw [hlen] at hi
    by_cases hil : i < zss.length
    · rw [hg1 i hil, List.getElem_append_left hil]
      refine ((h3 i hil).stay hsz0 fun p hp => hkeep p (by have := (h3 i hil).own.blk p hp; have := h2.hsz; omega) fun e2 => h5 i hil p hp e2).mono (Nat.le_refl _) (by have := h2.hsz; omega) (Nat.le_refl _)
    · obtain rfl : i = zss.length := by omega
      rw [hg2]
      simp only [List.getElem_append_right (Nat.le_refl _), Nat.sub_self, List.getElem_cons_zero]
      refine (hu.stay hsz0 fun p hp => hkeep p (hub p hp).2 fun e2 => ?_).mono hlm hsz0 (Nat.le_refl _)
      have := hvb p e2; have := (hub p hp).1; omega
  · intro i j hij hj p hp
    rw [hlen] at hj
    have hil : i < zss.length := by omega
    rw [hg1 i hil] at hp
    by_cases hjl : j < zss.length
    · rw [hg1 j hjl]; exact h4 i j hij hjl p hp
    · obtain rfl : j = zss.length := by omega
      rw [hg2]
      intro e2
      have := (h3 i hil).own.blk p hp; have := (hub p e2).1; omega
  · intro i hi p hp e2
    rw [hlen] at hi
    by_cases hil : i < zss.length
    · rw [hg1 i hil] at hp
      have hb := (h3 i hil).own.blk p hp
      have hz := h2.hsz
      rcases hblk with hblk | hblk
      · exact h5 i hil p hp (by rw [← hblk]; exact e2)
      · rw [hblk] at e2; cases e2; omega
    · obtain rfl : i = zss.length := by omega
      rw [hg2] at hp
      have hb := hub p hp
      rcases hblk with hblk | hblk
      · have := hvb p (by rw [← hblk]; exact e2); omega
      · rw [hblk] at e2; cases e2; omega
theorem wpList_appIIK {w : World} {ops : Array Oper} {rest : List Oper} {o : Oper} {a : Act} {Q : Exit → Act → World → Prop} (hgd : o.guard = none) (s x : Operand)
    (ho : o.op = .call { callee := .builtin .append, args := #[s, x], argTypes := #[22, 22] })
    {lo hi mid : Nat} (v : Value) (zss : List (List Int)) (hs : a.eval s = v) (u : Value) (zs : List Int) (e : TypeId) (hv : OwnII w lo hi v zss) (hu : OwnI w mid w.heap.size u zs) (hm : hi ≤ mid) (hlm : lo ≤ mid) (hx : a.eval x = .slice (some ⟨w.heap.size, 0, none⟩) 1 1)
    (hl : zss.length + 1 ≤ 1048576) (hsum : ((zss ++ [zs]).map List.length).sum ≤ 1099511627776) (hlo : lo ≤ w.heap.size)
    (h : ∀ v' w', OwnII w' lo w'.heap.size v' (zss ++ [zs]) → (∀ k, k < w.heap.size → v.ownBlock ≠ some k → w'.heap[k]? = w.heap[k]?) → Same lo hi w w' → w.heap.size + 1 ≤ w'.heap.size → (v'.ownBlock = v.ownBlock ∨ v'.ownBlock = some (w.heap.size + 1)) → wpList Try.prog ops Q rest (a.put o.dst v') w') :
    wpList Try.prog ops Q (o :: rest) a (w.alloc (.cells #[u] e)) :=
  wpList_plain hgd fun _ hK => wp_appIIK s x ho v zss hs u zs e hv hu hm hlm hx hl hsum hlo fun v' w' h1 h2 h3 h4 h5 => hK _ _ (h v' w' h1 h2 h3 h4 h5)
theorem sum_snoc (P : List (List Int)) (c : List Int) : ((P ++ [c]).map List.length).sum = (P.map List.length).sum + c.length := by simp
theorem prove_sum {L : Nat} {cs : List (List Int)} (hL : (L : Int) ≤ 10) : ∀ (n : Nat) (d : List Int) (P P' : List (List Int)), Cons (L : Int) d → (P.map List.length).sum ≤ 10 * P.length → proveGo L cs n d P = some P' → (P'.map List.length).sum ≤ 10 * P'.length := by
  intro n
  induction n with
  | zero => intro d P P' _ _ h; rw [proveGo] at h; cases h
  | succ n ih =>
    intro d P P' hd hP h
    rw [proveGo, Option.bind_eq_some_iff] at h
    obtain ⟨P2, h1, h2⟩ := h
    have h3 : (P2.map List.length).sum ≤ 10 * P2.length := by
      split at h1
      · split at h1
        · rename_i hf
          rw [Option.bind_eq_some_iff] at h1
          obtain ⟨P1, g1, g2⟩ := h1
          obtain ⟨c1, c2⟩ := free_cons hd hf
          exact ih _ _ _ c2 (ih _ _ _ c1 hP g1) g2
        · cases h1
      · injection h1 with h1; rw [← h1]; exact hP
    split at h2
    · injection h2 with h2
      subst h2
      rw [sum_snoc, List.length_append, clauseOf_len]
      have := hd.len hL
      simp; omega
    · cases h2
/-- what a call leaves that puts rows behind a proof -/
def ProvePost (L : Nat) (cs : List (List Int)) (n : Nat) (d : List Int) (P : List (List Int)) (lo : Nat) (v : Value) (w : World) (e : Ending) (w' : World) : Prop :=
  KeepB w w' v ∧ ((proveGo L cs n d P = none ∧ ∃ r, e = .returned (.tuple #[r, .bool false])) ∨ ∃ P' r, proveGo L cs n d P = some P' ∧ e = .returned (.tuple #[r, .bool true]) ∧ OwnII w' lo w'.heap.size r P' ∧ BlkOk w v r)
theorem OwnII.ge {w : World} {lo hi : Nat} {v : Value} {zss : List (List Int)} (h : OwnII w lo hi v zss) : ∀ p, v.ownBlock = some p → lo ≤ p ∧ p < hi := by
  obtain ⟨vs, h1, h2, _⟩ := h.ex
  exact fun p hp => ⟨(h2.row.lt p hp).1, h2.blk p hp⟩
theorem prove_wrong {L : Nat} {cs : List (List Int)} {n : Nat} {d : List Int} {P : List (List Int)} (h : ¬ (unitsF cs d).wrong < 0) : proveGo L cs (n + 1) d P = if P.length < 128 then some (P ++ [clauseOf d]) else none := by rw [proveGo, if_neg h]; rfl
theorem prove_full {L : Nat} {cs : List (List Int)} {n : Nat} {d : List Int} {P : List (List Int)} (h : (unitsF cs d).wrong < 0) (hf : ¬ freeOf L (unitsF cs d).known ≤ L) : proveGo L cs (n + 1) d P = none := by rw [proveGo, if_pos h, if_neg hf]; rfl
theorem prove_one {L : Nat} {cs : List (List Int)} {n : Nat} {d : List Int} {P : List (List Int)} (h : (unitsF cs d).wrong < 0) (hf : freeOf L (unitsF cs d).known ≤ L) (h1 : proveGo L cs n (d ++ [-(freeOf L (unitsF cs d).known : Int)]) P = none) : proveGo L cs (n + 1) d P = none := by rw [proveGo, if_pos h, if_pos hf, h1]; rfl
theorem prove_two {L : Nat} {cs : List (List Int)} {n : Nat} {d : List Int} {P P1 : List (List Int)} (h : (unitsF cs d).wrong < 0) (hf : freeOf L (unitsF cs d).known ≤ L) (h1 : proveGo L cs n (d ++ [-(freeOf L (unitsF cs d).known : Int)]) P = some P1) (h2 : proveGo L cs n (d ++ [(freeOf L (unitsF cs d).known : Int)]) P1 = none) : proveGo L cs (n + 1) d P = none := by rw [proveGo, if_pos h, if_pos hf, h1]; show (proveGo L cs n _ P1).bind _ = none; rw [h2]; rfl
theorem prove_three {L : Nat} {cs : List (List Int)} {n : Nat} {d : List Int} {P P1 P2 : List (List Int)} (h : (unitsF cs d).wrong < 0) (hf : freeOf L (unitsF cs d).known ≤ L) (h1 : proveGo L cs n (d ++ [-(freeOf L (unitsF cs d).known : Int)]) P = some P1) (h2 : proveGo L cs n (d ++ [(freeOf L (unitsF cs d).known : Int)]) P1 = some P2) : proveGo L cs (n + 1) d P = if P2.length < 128 then some (P2 ++ [clauseOf d]) else none := by rw [proveGo, if_pos h, if_pos hf, h1]; show (proveGo L cs n _ P1).bind _ = _; rw [h2]; rfl
end Go.Proofs.Ytdeelgnfnhdklaa
