/-
  How slices of slices of integers read in memory, and contracts of the functions of the laws that copy, compare, measure and mark them.
-/
import Derived.Test.YteoikfddebbakaaMarkI
namespace Go.Proofs.Yteoikfddebbakaa
open Go.RowKit
set_option linter.unusedVariables false
set_option maxRecDepth 100000

structure Intss (w : World) (lo hi : Nat) (v : Value) (zss : List (List Int)) : Prop where
  ex : ∃ V : Nat → Value, Sl w lo hi 1 zss.length v V ∧ ∀ i (h : i < zss.length), Ints w lo hi (V i) zss[i]
section
variable {w w' : World} {lo hi : Nat} {v : Value} {zss : List (List Int)}
theorem Intss.out (h : Intss w lo hi v zss) : ∃ a cap, ∃ V : Nat → Value, v = .slice a zss.length cap ∧ zss.length ≤ cap ∧ cap ≤ 9223372036854775807 ∧ (∀ i (h : i < zss.length), Ints w lo hi (V i) zss[i]) ∧
    (zss = [] ∨ ∃ b off, a = some ⟨b, off, none⟩ ∧ lo ≤ b ∧ b < hi ∧ hi ≤ w.heap.size ∧ ∀ i, i < zss.length → w.cell? ⟨b, off + i, none⟩ = some (V i)) := by
  obtain ⟨V, hs, hV⟩ := h.ex
  obtain ⟨a, cap, e, h1, h2, h3⟩ := hs.out
  refine ⟨a, cap, V, e, h1, h2, hV, ?_⟩
  rcases h3 with h3 | ⟨b, off, r1, r2, r3, r4, r5⟩
  · exact .inl (List.eq_nil_of_length_eq_zero h3)
  · exact .inr ⟨b, off, r1, r2, r3, r4, fun i hi => r5 i (by omega)⟩
theorem Intss.len (h : Intss w lo hi v zss) : zss.length ≤ 9223372036854775807 := by obtain ⟨V, hs, _⟩ := h.ex; exact hs.len
theorem Intss.below {B : Nat} (h : Intss w lo hi v zss) (hb : Below B w w') (hB : hi ≤ B) : Intss w' lo hi v zss := by
  obtain ⟨V, hs, hV⟩ := h.ex; exact ⟨V, hs.below hb hB, fun i hi => (hV i hi).below hb hB⟩
theorem Intss.same {l h' : Nat} (h : Intss w lo hi v zss) (hb : Same l h' w w') (hB : hi ≤ l ∨ h' ≤ lo) : Intss w' lo hi v zss := by
  obtain ⟨V, hs, hV⟩ := h.ex; exact ⟨V, hs.same hb hB, fun i hi => (hV i hi).same hb hB⟩
theorem Intss.drew (h : Intss w lo hi v zss) (hd : Drew w w') : Intss w' lo hi v zss := by
  obtain ⟨V, hs, hV⟩ := h.ex; exact ⟨V, hs.drew hd, fun i hi => (hV i hi).drew hd⟩
theorem Intss.mono {lo' hi' : Nat} (h : Intss w lo hi v zss) (hl : lo' ≤ lo) (hh : hi ≤ hi') (hw : hi' ≤ w.heap.size) : Intss w lo' hi' v zss := by
  obtain ⟨V, hs, hV⟩ := h.ex; exact ⟨V, hs.mono hl hh hw, fun i hi => (hV i hi).mono hl hh hw⟩
theorem Intss.nil (w : World) (lo hi : Nat) : Intss w lo hi (.slice none 0 0) [] := ⟨fun _ => undef, Sl.nil _ _ _ _ _, fun i h => by simp at h⟩
end
theorem len_le_sum (zss : List (List Int)) (i : Nat) (hi : i < zss.length) : zss[i].length ≤ (zss.map List.length).sum := by
  induction zss generalizing i with
  | nil => simp at hi
  | cons a r ih =>
    rw [List.map_cons, List.sum_cons]
    cases i with
    | zero => simp
    | succ i => have := ih i (by simpa using hi); rw [List.getElem_cons_succ]; omega
/-- so many rows and numbers that no count wraps -/
def SmallII (zss : List (List Int)) : Prop := zss.length ≤ 1048576 ∧ (zss.map List.length).sum ≤ 1048576
theorem SmallII.row {zss : List (List Int)} (h : SmallII zss) {i : Nat} (hi : i < zss.length) : zss[i].length ≤ 1048576 := by
  have h1 := len_le_sum zss i hi
  have := h.2; omega

/-! ### in memory of the call's own: no two rows share a block -/
structure OwnII (w : World) (lo hi : Nat) (v : Value) (zss : List (List Int)) : Prop where
  ex : ∃ vs : List Value, vs.length = zss.length ∧ Own w lo hi 32 1 v zss.length vs ∧
    (∀ i (h : i < zss.length), OwnI w lo hi (vs.getD i undef) zss[i]) ∧
    (∀ i j, i < j → j < zss.length → ∀ p, (vs.getD i undef).ownBlock = some p → (vs.getD j undef).ownBlock ≠ some p) ∧
    (∀ i, i < zss.length → ∀ p, (vs.getD i undef).ownBlock = some p → v.ownBlock ≠ some p)
  len : (zss.map List.length).sum ≤ 1099511627776
section
variable {w w' : World} {lo hi : Nat} {v : Value} {zss : List (List Int)}
theorem OwnII.rd (h : OwnII w lo hi v zss) : Intss w lo hi v zss := by
  obtain ⟨vs, h1, h2, h3, _, _⟩ := h.ex
  exact ⟨fun i => vs.getD i undef, h2.sl, fun i hi => (h3 i hi).rd⟩
theorem OwnII.below {B : Nat} (h : OwnII w lo hi v zss) (hb : Below B w w') (hB : hi ≤ B) : OwnII w' lo hi v zss := by
  obtain ⟨vs, h1, h2, h3, h4, h5⟩ := h.ex; exact ⟨⟨vs, h1, h2.below hb hB, fun i hi => (h3 i hi).below hb hB, h4, h5⟩, h.len⟩
theorem OwnII.same {l h' : Nat} (h : OwnII w lo hi v zss) (hb : Same l h' w w') (hB : hi ≤ l ∨ h' ≤ lo) : OwnII w' lo hi v zss := by
  obtain ⟨vs, h1, h2, h3, h4, h5⟩ := h.ex; exact ⟨⟨vs, h1, h2.same hb hB, fun i hi => (h3 i hi).same hb hB, h4, h5⟩, h.len⟩
theorem OwnII.drew (h : OwnII w lo hi v zss) (hd : Drew w w') : OwnII w' lo hi v zss := by
  obtain ⟨vs, h1, h2, h3, h4, h5⟩ := h.ex; exact ⟨⟨vs, h1, h2.drew hd, fun i hi => (h3 i hi).drew hd, h4, h5⟩, h.len⟩
theorem OwnII.mono {lo' hi' : Nat} (h : OwnII w lo hi v zss) (hl : lo' ≤ lo) (hh : hi ≤ hi') (hw : hi' ≤ w.heap.size) : OwnII w lo' hi' v zss := by
  obtain ⟨vs, h1, h2, h3, h4, h5⟩ := h.ex; exact ⟨⟨vs, h1, h2.mono hl hh hw, fun i hi => (h3 i hi).mono hl hh hw, h4, h5⟩, h.len⟩
theorem OwnII.nil (w : World) (lo hi : Nat) (h : hi ≤ w.heap.size) : OwnII w lo hi (.slice none 0 0) [] :=
  ⟨⟨[], rfl, Own.nil _ _ _ _ _ h, fun i h => by simp at h, fun i j _ h => by simp at h, fun i h => by simp at h⟩, by simp⟩
end
theorem OwnI.narrow {w : World} {lo hi : Nat} {v : Value} {zs : List Int} (h : OwnI w lo hi v zs) :
    ∃ p q, OwnI w p q v zs ∧ ((v.ownBlock = none ∧ p = 0 ∧ q = 0) ∨ (v.ownBlock = some p ∧ q = p + 1 ∧ lo ≤ p ∧ p < hi)) := by
  rcases h.rowOf with ⟨rfl, rfl⟩ | ⟨g, cap, rfl, h1, h2, h3, h4⟩
  · exact ⟨0, 0, OwnI.nil _ _ _ (Nat.zero_le _), .inl ⟨rfl, rfl, rfl⟩⟩
  · have h5 := h4.lt
    refine ⟨g, g + 1, ⟨⟨⟨h.own.row.1, ?_⟩, fun k e => by simp [Value.ownBlock] at e; omega, by omega⟩, h.rng, h.len⟩, .inr ⟨rfl, rfl, h4.ge, h1⟩⟩
    rcases h.own.row.2 with h0 | ⟨g', cap', cur, e, h6, r⟩
    · exact .inl h0
    · refine .inr ⟨g', cap', cur, e, ?_, r⟩
      simp at e; omega
theorem OwnI.widen {w : World} {p q lo hi : Nat} {v : Value} {zs : List Int} (h : OwnI w p q v zs) (hh : hi ≤ w.heap.size) (hb : ∀ k, v.ownBlock = some k → lo ≤ k ∧ k < hi) : OwnI w lo hi v zs := by
  refine ⟨⟨⟨h.own.row.1, ?_⟩, fun k e => (hb k e).2, hh⟩, h.rng, h.len⟩
  rcases h.own.row.2 with h0 | ⟨g, cap, cur, e, h6, r⟩
  · exact .inl h0
  · exact .inr ⟨g, cap, cur, e, (hb g (by rw [e]; rfl)).1, r⟩
/-- an owned slice of integers stays where its own block stays -/
theorem OwnI.stay {w w' : World} {lo hi : Nat} {v : Value} {zs : List Int} (h : OwnI w lo hi v zs) (hs : w.heap.size ≤ w'.heap.size) (hb : ∀ k, v.ownBlock = some k → w'.heap[k]? = w.heap[k]?) : OwnI w' lo hi v zs := by
  refine ⟨⟨⟨h.own.row.1, ?_⟩, h.own.blk, by have := h.own.hsz; omega⟩, h.rng, h.len⟩
  rcases h.own.row.2 with h0 | ⟨g, cap, cur, e, h6, h7, r⟩
  · exact .inl h0
  · exact .inr ⟨g, cap, cur, e, h6, by rw [hb g (by rw [e]; rfl)]; exact h7, r⟩
theorem OwnI.setOther {w : World} {lo hi : Nat} {v : Value} {zs : List Int} (h : OwnI w lo hi v zs) (p : Addr) (u : Value) (hne : ∀ k, v.ownBlock = some k → k ≠ p.block) : OwnI (w.setCell p u) lo (w.setCell p u).heap.size v zs := by
  have hsz : (w.setCell p u).heap.size = w.heap.size := by simp [World.setCell]
  rw [hsz]
  exact (h.stay (by omega) fun k hk => Below.heap_setCell _ _ _ _ (hne k hk)).mono (Nat.le_refl _) h.own.hsz (by omega)
theorem Own.stay {w w' : World} {lo hi : Nat} {e : TypeId} {sz n : Nat} {v : Value} {cs : List Value} (h : Own w lo hi e sz v n cs) (hs : w.heap.size ≤ w'.heap.size) (hb : ∀ k, v.ownBlock = some k → w'.heap[k]? = w.heap[k]?) : Own w' lo hi e sz v n cs := by
  refine ⟨⟨h.row.1, ?_⟩, h.blk, by have := h.hsz; omega⟩
  rcases h.row.2 with h0 | ⟨g, cap, cur, e, h6, h7, r⟩
  · exact .inl h0
  · exact .inr ⟨g, cap, cur, e, h6, by rw [hb g (by rw [e]; rfl)]; exact h7, r⟩

theorem info_ints : (Try.prog.info? 32).map (fun i => (i.zero, i.size, i.bytes)) = some (some (.slice none 0 0), 1, 24) := by kernel_rfl
set_option maxHeartbeats 800000 in
set_option maxRecDepth 100000 in
theorem eqInt64SS_any {l h l' h' : Nat} (v u : Value) (xs ys : List (List Int)) (w : World) (hv : Intss w l h v xs) (hu : Intss w l' h' u ys) (hh : h ≤ w.heap.size) (hh' : h' ≤ w.heap.size) :
    Calls Try.prog 48 #[v, u] w fun e w' => e = .returned (.bool (decide (xs = ys))) ∧ Below w.heap.size w w' := by
  obtain ⟨a, cap, V, rfl, hc1, hc2, hV, hd⟩ := hv.out
  obtain ⟨a', cap', U, rfl, gc1, gc2, hU, gd⟩ := hu.out
  have HV := Lib.hid hV
  have HU := Lib.hid hU
  clear hV hU
  by_cases hlen : xs.length = ys.length
  · have hne : ((xs.length : Int) != (ys.length : Int)) = false := by simp [hlen]
    have Hl := Lib.hid hlen
    clear hlen
    go_enter Try.func48, Try.ntmps48
    go_wp2_with fail
    go_loopw [5] (fun i wr => ∃ k : Nat, k ≤ xs.length ∧ i = .int .i64 k ∧ Hid (xs = ys ↔ xs.drop k = ys.drop k) ∧ Drew w wr) (fun i _ => xs.length - (intOf i).toNat)
    case atStart => exact ⟨0, Nat.zero_le _, rfl, Lib.hid (by simp), Drew.refl _⟩
    case round =>
      obtain ⟨k, hk, rfl, H, hD⟩ := hrel
      have hcw := hD.cell
      by_cases hlt : k < xs.length
      · have glt : k < ys.length := by rw [← Hl.out]; exact hlt
        have HD := Lib.hid (drop_cons xs k hlt)
        have GD := Lib.hid (drop_cons ys k glt)
        rcases hd with rfl | ⟨b, off, rfl, hb1, hb2, hb3, hcell⟩
        · simp at hlt
        rcases gd with rfl | ⟨b', off', rfl, gb1, gb2, gb3, gcell⟩
        · simp at glt
        have hck := hcell k hlt
        have gck := gcell k glt
        have hx := (HV.out k hlt).drew hD
        have hy := (HU.out k glt).drew hD
        clear hcell gcell
        cases hq : decide (xs[k] = ys[k])
        · go_wp2_with fail
          go_quiet ((go_at_call 19; exact quiet_drew (eqInt64S_any _ _ _ _ _ (hx.drewN _) (hy.drewN _))))
          go_wp2
          go_ret
          exact ⟨ret_bool (decide_eq_false (by rw [H.out, HD.out, GD.out, List.cons.injEq]; simp at hq; simp [hq])).symm, (hD.step _).below _⟩
        · go_wp2_with fail
          go_quiet ((go_at_call 19; exact quiet_drew (eqInt64S_any _ _ _ _ _ (hx.drewN _) (hy.drewN _))))
          go_wp2
          go_roundw
          case rel => exact ⟨k + 1, by omega, by go_num, Lib.hid (by rw [H.out, HD.out, GD.out, List.cons.injEq]; simp at hq; simp [hq]), hD.step _⟩
          case measure => simp [intOf]; omega
      · go_wp2
        go_ret
        exact ⟨ret_bool (decide_eq_true (by rw [H.out, drop_len _ _ (by omega), drop_len _ _ (by rw [← Hl.out]; omega)])).symm, hD.below _⟩
  · have hne : ((xs.length : Int) != (ys.length : Int)) = true := by simp; omega
    have hxy : xs ≠ ys := fun e => hlen (by rw [e])
    go_enter Try.func48, Try.ntmps48
    go_wp2
    go_ret
    exact ⟨ret_bool (by simp [hxy]), Below.refl _ _⟩
def marksII (k : Int) : List (List Int) → List (List Int)
  | [] => []
  | x :: r => marksI k x.length :: marksII (k + (x.length : Int)) r
def offs (xs : List (List Int)) (i : Nat) : Nat := ((xs.take i).map List.length).sum
theorem marksII_len (k : Int) (xs : List (List Int)) : (marksII k xs).length = xs.length := by
  induction xs generalizing k with
  | nil => rfl
  | cons a r ih => simp [marksII, ih]
theorem marksII_get (k : Int) (xs : List (List Int)) (i : Nat) (h : i < xs.length) : (marksII k xs)[i]'(by rw [marksII_len]; exact h) = marksI (k + (offs xs i : Int)) xs[i].length := by
  induction xs generalizing k i with
  | nil => simp at h
  | cons a r ih =>
    cases i with
    | zero => simp [marksII, offs]
    | succ i =>
      simp only [marksII, List.getElem_cons_succ]
      rw [ih _ _ (by simpa using h)]
      congr 1
      simp [offs]; omega
theorem marksII_sum (k : Int) (xs : List (List Int)) : ((marksII k xs).map List.length).sum = (xs.map List.length).sum := by
  induction xs generalizing k with
  | nil => rfl
  | cons a r ih => simp [marksII, ih, marksI_len]
theorem offs_succ (xs : List (List Int)) (i : Nat) (h : i < xs.length) : offs xs (i + 1) = offs xs i + xs[i].length := by
  unfold offs; rw [List.take_succ_eq_append_getElem h, List.map_append, List.sum_append]; simp
theorem offs_all (xs : List (List Int)) : offs xs xs.length = (xs.map List.length).sum := by unfold offs; rw [List.take_length]
theorem offs_le (xs : List (List Int)) (i : Nat) : offs xs i ≤ (xs.map List.length).sum := by
  unfold offs
  have : (xs.map List.length).sum = ((xs.take i).map List.length).sum + ((xs.drop i).map List.length).sum := by
    rw [← List.sum_append, ← List.map_append, List.take_append_drop]
  omega
set_option maxHeartbeats 1600000 in
set_option maxRecDepth 100000 in
theorem markInt64SS_any {lo hi : Nat} (v : Value) (xs : List (List Int)) (k : Int) (w : World) (hv : OwnII w lo hi v xs) (h0 : 0 ≤ k) (h1 : k + (xs.map List.length).sum ≤ 17592186043904) :
    Calls Try.prog 49 #[v, .int .i64 k] w fun e w' => e = .returned (.int .i64 (k + (xs.map List.length).sum)) ∧ OwnII w' lo hi v (marksII k xs) ∧ Same lo hi w w' := by
  have hlen := hv.len
  obtain ⟨vs, hvl, hown, hrows, hdis, hout⟩ := hv.ex
  have hh := hown.hsz
  have HD := Lib.hid hdis
  have HU := Lib.hid hout
  have HR := Lib.hid hrows
  have HO := Lib.hid hown
  obtain ⟨a, cap, e, hc1, hc2, hd⟩ := hown.sl.out
  subst e
  clear hdis hout hrows hown hv
  have HS := Lib.hid (offs_all xs)
  go_enter Try.func49, Try.ntmps49
  go_wp2_with fail
  go_loopw [1, 5] (fun q i wr => ∃ j : Nat, j ≤ xs.length ∧ i = .int .i64 j ∧ q = .int .i64 (k + (offs xs j : Int)) ∧ Own wr lo hi 32 1 (.slice a xs.length cap) xs.length vs ∧
    Hid (∀ m (hm : m < xs.length), OwnI wr lo hi (vs.getD m undef) (if m < j then marksI (k + (offs xs m : Int)) xs[m].length else xs[m])) ∧ Same lo hi w wr) (fun _ i _ => xs.length - (intOf i).toNat)
  case atStart => exact ⟨0, Nat.zero_le _, rfl, by simp [offs], HO.out, Lib.hid (fun m hm => by simpa using HR.out m hm), Same.refl _ _ _⟩
  case round =>
    obtain ⟨j, hj, rfl, rfl, hown, HI, hs⟩ := hrel
    have hsz := hs.size
    by_cases hlt : j < xs.length
    · have hoj := offs_le xs (j + 1)
      have hos := offs_succ xs j hlt
      rcases hd with hd | ⟨b, off, rfl, hb1, hb2, hb3, hcell⟩
      · omega
      have hck : wr.cell? ⟨b, off + j, none⟩ = some (vs.getD j undef) := by
        obtain ⟨a', cap', e', _, _, h3⟩ := hown.sl.out
        simp only [Value.slice.injEq] at e'
        obtain ⟨rfl, _, rfl⟩ := e'
        rcases h3 with h3 | ⟨b', off', e2, _, _, _, hc⟩
        · omega
        · simp only [Option.some.injEq, Addr.mk.injEq] at e2
          obtain ⟨rfl, rfl, _⟩ := e2
          exact hc j (by omega)
      have hj1 := HI.out j hlt
      rw [if_neg (Nat.lt_irrefl j)] at hj1
      obtain ⟨p, q, hn, hpq⟩ := hj1.narrow
      generalize hvj : vs.getD j undef = vj at *
      have HVJ := Lib.hid hvj
      have HPQ := Lib.hid hpq
      have Hos := Lib.hid hos
      clear hvj hpq hcell hj1 hos
      go_wp2_with fail
      refine (markInt64S_any vj xs[j] _ wr hn (by omega) (by have := Hos.out; omega)).mono ?_
      rintro e w2 ⟨rfl, hm, hs2⟩
      have hsz2 := hs2.size
      have hsame : Same lo hi wr w2 := by
        rcases HPQ.out with ⟨_, rfl, rfl⟩ | ⟨_, rfl, h2, h3⟩
        · exact ⟨hs2.os, hs2.tape, hs2.output, hs2.size, fun m hm hx => hs2.block m hm (by omega)⟩
        · exact hs2.mono h2 (by omega)
      have hkeep : ∀ m, m < wr.heap.size → vj.ownBlock ≠ some m → w2.heap[m]? = wr.heap[m]? := by
        intro m hmm hne
        rcases HPQ.out with ⟨_, rfl, rfl⟩ | ⟨e2, rfl, h2, h3⟩
        · exact hs2.block m hmm (by omega)
        · exact hs2.block m hmm (by intro hx; apply hne; rw [e2]; congr 1; omega)
      have hoff := Hos.out
      go_wp2_with fail
      go_roundw
      case rel =>
        refine ⟨j + 1, by omega, by go_num, by rw [Hos.out]; first | go_num | (congr 1; omega), ?_, ?_, hs.trans hsame⟩
        · refine hown.stay hsz2 fun m hm => hkeep m (hown.row.lt m hm).2 ?_
          intro e2
          exact HU.out j hlt m (by rw [HVJ.out]; exact e2) hm
        · intro m hm'
          by_cases e : m = j
          · subst e
            rw [if_pos (by omega), HVJ.out]
            refine hm.widen (by omega) fun p' hp' => ?_
            rcases HPQ.out with ⟨e2, _, _⟩ | ⟨e2, _, h2, h3⟩
            · rw [e2] at hp'; cases hp'
            · rw [e2] at hp'; cases hp'; exact ⟨h2, h3⟩
          · have h2 := HI.out m hm'
            have h3 : OwnI w2 lo hi (vs.getD m undef) (if m < j then marksI (k + (offs xs m : Int)) xs[m].length else xs[m]) := by
              refine h2.stay hsz2 fun p' hp' => hkeep p' (h2.own.row.lt p' hp').2 ?_
              intro e2
              rcases Nat.lt_or_gt_of_ne e with h4 | h4
              · exact HD.out m j h4 hlt p' hp' (by rw [HVJ.out]; exact e2)
              · exact HD.out j m h4 hm' p' (by rw [HVJ.out]; exact e2) hp'
            by_cases h4 : m < j
            · rw [if_pos h4] at h3; rw [if_pos (by omega)]; exact h3
            · rw [if_neg h4] at h3; rw [if_neg (by omega)]; exact h3
      case measure => simp [intOf]; omega
    · go_wp2
      go_ret
      obtain rfl : j = xs.length := by omega
      refine ⟨ret_int (by rw [HS.out]), ⟨⟨vs, by rw [marksII_len]; exact hvl, by rw [marksII_len]; exact hown, fun i hi => ?_, fun i j hij hj => HD.out i j hij (by rw [marksII_len] at hj; exact hj), fun i hi => HU.out i (by rw [marksII_len] at hi; exact hi)⟩, by rw [marksII_sum]; exact hlen⟩, hs⟩
      have hi' : i < xs.length := by rw [marksII_len] at hi; exact hi
      rw [marksII_get k xs i hi']
      have := HI.out i hi'
      rwa [if_pos hi'] at this
set_option maxHeartbeats 800000 in
set_option maxRecDepth 100000 in
theorem heldInt64SS_any {l h : Nat} (v : Value) (k : Int) (xs : List (List Int)) (w : World) (hv : Intss w l h v (marksII k xs)) (h0 : 0 ≤ k) (h1 : k + (xs.map List.length).sum ≤ 17592186043904) :
    Calls Try.prog 50 #[v, .int .i64 k] w fun e w' => e = .returned (.int .i64 (k + (xs.map List.length).sum)) ∧ Drew w w' := by
  obtain ⟨a, cap, V, rfl, hc1, hc2, hV, hd⟩ := hv.out
  have HM := Lib.hid (marksII_len k xs)
  rw [HM.out] at hc1
  have HV : Hid (∀ i (hi : i < xs.length), Ints w l h (V i) (marksI (k + (offs xs i : Int)) xs[i].length)) := fun i hi => by
    have := hV i (by rw [HM.out]; exact hi)
    rwa [marksII_get k xs i hi] at this
  have hd' : Hid (xs = [] ∨ ∃ b off, a = some ⟨b, off, none⟩ ∧ l ≤ b ∧ b < h ∧ h ≤ w.heap.size ∧ ∀ i, i < xs.length → w.cell? ⟨b, off + i, none⟩ = some (V i)) := by
    rcases hd with hd | ⟨b, off, r1, r2, r3, r4, r5⟩
    · exact .inl (List.eq_nil_of_length_eq_zero (by rw [← HM.out, hd]; rfl))
    · exact .inr ⟨b, off, r1, r2, r3, r4, fun i hi => r5 i (by rw [HM.out]; exact hi)⟩
  clear hd hV
  rw [HM.out]
  have HS := Lib.hid (offs_all xs)
  go_enter Try.func50, Try.ntmps50
  go_wp2_with fail
  go_loopw [1, 5] (fun q i wr => ∃ j : Nat, j ≤ xs.length ∧ i = .int .i64 j ∧ q = .int .i64 (k + (offs xs j : Int)) ∧ Drew w wr) (fun _ i _ => xs.length - (intOf i).toNat)
  case atStart => exact ⟨0, Nat.zero_le _, rfl, by simp [offs], Drew.refl _⟩
  case round =>
    obtain ⟨j, hj, rfl, rfl, hD⟩ := hrel
    have hcw := hD.cell
    by_cases hlt : j < xs.length
    · have hoj := offs_le xs (j + 1)
      have hos := offs_succ xs j hlt
      rcases hd'.out with rfl | ⟨b, off, rfl, hb1, hb2, hb3, hcell⟩
      · simp at hlt
      have hck := hcell j hlt
      have hx := (HV.out j hlt).drew hD
      have Hos := Lib.hid hos
      clear hcell hos
      go_wp2_with fail
      refine (heldInt64S_any _ _ _ wr hx (by omega) (by have := Hos.out; omega)).mono ?_
      rintro e w2 ⟨rfl, hD2⟩
      have hnn : ¬ (k + (offs xs j : Int) + (xs[j].length : Int) < 0) := by omega
      go_wp2_with fail
      go_roundw
      case rel => exact ⟨j + 1, by omega, by go_num, by rw [Hos.out]; first | go_num | (congr 1; omega), hD.trans hD2⟩
      case measure => simp [intOf]; omega
    · go_wp2
      go_ret
      obtain rfl : j = xs.length := by omega
      exact ⟨ret_int (by rw [HS.out]), hD⟩
end Go.Proofs.Yteoikfddebbakaa
