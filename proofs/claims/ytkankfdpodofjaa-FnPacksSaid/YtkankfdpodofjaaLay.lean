/-
  Contracts of the library's slices functions at []int64, laid (the text is what the kit's shelf_lay_g builds, by lay-plain).
-/
import Derived.Test.YtkankfdpodofjaaApp
import Derived.Shelf.SlicesG.Turned
import Derived.Shelf.SlicesG.Delete
import Derived.Lib.Overlaps
import Derived.Lib.OwnBridge
import Derived.Shelf.Spec.SlicesInsert
import Derived.Deep.RegionLaw
namespace Go.Proofs.Ytkankfdpodofjaa
open Go.RowKit
set_option linter.unusedVariables false
set_option maxRecDepth 100000

def layDelete_ren : Go.Shelf.Ren := ⟨fun | 45 => 94 | n => n, fun | 22 => 25 | 23 => 2 | 3 => 3 | 4 => 4 | 0 => 0 | n => n, fun | n => n⟩
theorem layDelete : Go.Proofs.SlLaysN.n45 Try.prog layDelete_ren := {
  mixed := by kernel_rfl
  f45 := ⟨Try.f94.name, by decide, Try.func94.trans (congrArg some (by kernel_rfl))⟩
  t0 := Try.underlying0
  a0 := Try.isAgg0
  z0 := Try.sizeOf0
  v0 := Try.zeroValue0
  t3 := Try.underlying3
  a3 := Try.isAgg3
  z3 := Try.sizeOf3
  v3 := Try.zeroValue3
  t4 := Try.underlying4
  a4 := Try.isAgg4
  z4 := Try.sizeOf4
  v4 := Try.zeroValue4
  t22 := Try.underlying25
  a22 := Try.isAgg25
  z22 := Try.sizeOf25
  v22 := Try.zeroValue25
  t23 := Try.underlying2
  a23 := Try.isAgg2
  z23 := Try.sizeOf2
  v23 := Try.zeroValue2
  i23 := by kernel_rfl }
theorem slicesDelete_lay (blk off cap i j : Nat) (zs : List Int) (w : World) (hH : Go.Sort.Holds (Value.int .i64) w blk off zs.toArray) (hcap : zs.length ≤ cap) (hm : cap ≤ 9223372036854775807) (hij : i ≤ j) (hj : j ≤ zs.length) :
    Calls Try.prog 94 #[.slice (some ⟨blk, off, none⟩) zs.length cap, .int .i64 i, .int .i64 j] w fun e w' => e = .returned (.slice (some ⟨blk, off, none⟩) (zs.length - (j - i)) cap) ∧ ∃ q, w' = Go.Sort.putRow (Value.int .i64) (Go.Sort.ahead w q) blk off (zs.take i ++ zs.drop j ++ List.replicate (j - i) 0).toArray :=
  AnyG.slices_Delete_int layDelete blk off cap i j zs w hH hcap hm hij hj
theorem rowI_block {w : World} {lo g n cap : Nat} {zs : List Int} (h : RowI w lo g n cap zs) : ∃ cur, w.heap[g]? = some (.cells cur 2 (0, 0)) ∧ n ≤ cap ∧ cap ≤ maxLen ∧ cur.size = cap := by
  rcases h.row.row.2 with ⟨e, _⟩ | ⟨g', cap', cur, e, h1, h2, h3, h4, h5, h6⟩
  · cases e
  · injection e with e1 _ e3
    injection e1 with e1
    injection e1 with e1
    subst e1; subst e3
    exact ⟨cur, h2, h3, h4, by simpa using h5⟩
theorem slicesDelete_any {lo g n c : Nat} {L : List Int} (i : Nat) (w : World) (hR : RowI w lo g n c L) (hi : i < n) :
    Calls Try.prog 94 #[.slice (some ⟨g, 0, none⟩) n c, .int .i64 i, .int .i64 ((i : Int) + 1)] w fun e w' => e = .returned (.slice (some ⟨g, 0, none⟩) (n - 1) c) ∧ RowI w' lo g n c (L.take i ++ L.drop (i + 1) ++ [0]) ∧ ∀ B w0, B ≤ g → Below B w0 w → Below B w0 w' := by
  have hl := hR.length
  obtain ⟨cur, k1, k2, k3, k4⟩ := rowI_block hR
  have hH : Go.Sort.Holds (Value.int .i64) w g 0 L.toArray := fun j hj => by
    have hj' : j < n := by simpa [hl] using hj
    refine ⟨?_, by rw [Nat.zero_add]; exact hR.frozen j⟩
    rw [Nat.zero_add, hR.cell hj']
    simp [List.getD, getElem!_pos, show j < L.length by omega]
  have hm : c ≤ 9223372036854775807 := by unfold maxLen at k3; omega
  have h := slicesDelete_lay g 0 c i (i + 1) L w hH (by omega) hm (by omega) (by omega)
  rw [hl, show i + 1 - i = 1 by omega] at h
  refine Calls.mono h ?_
  rintro e w' ⟨rfl, q, rfl⟩
  have hy : (L.take i ++ L.drop (i + 1) ++ List.replicate 1 (0 : Int)).length = n := by simp; omega
  refine ⟨rfl, ⟨⟨?_⟩⟩, fun B w0 hB hb => Lib.below_putRow hb hB⟩
  have := Lib.ownsRow_putRow (q := q) (k := n) hR.row.row hy (Nat.le_refl _)
  have e : (L.take i ++ L.drop (i + 1) ++ List.replicate 1 (0 : Int)).take n = L.take i ++ L.drop (i + 1) ++ [0] := List.take_of_length_le (by omega)
  rw [e] at this
  exact this
/-- cells of a list laid over a row from place k on -/
def lays : List Int → Nat → List Int → List Int
  | L, _, [] => L
  | L, k, x :: r => lays (L.set k x) (k + 1) r
theorem lays_len (vs : List Int) : ∀ (L : List Int) (k : Nat), (lays L k vs).length = L.length := by
  induction vs with
  | nil => intro L k; rfl
  | cons v r ih => intro L k; rw [lays, ih, List.length_set]
theorem lays_getD (vs : List Int) : ∀ (L : List Int) (k j : Nat), k + vs.length ≤ L.length → (lays L k vs).getD j 0 = if k ≤ j ∧ j < k + vs.length then vs.getD (j - k) 0 else L.getD j 0 := by
  induction vs with
  | nil => intro L k j _; rw [lays, if_neg (by simp)]
  | cons v r ih =>
    intro L k j h
    simp only [List.length_cons] at h ⊢
    rw [lays, ih _ _ _ (by rw [List.length_set]; omega)]
    by_cases h1 : k + 1 ≤ j ∧ j < k + 1 + r.length
    · rw [if_pos h1, if_pos (by omega), show j - k = (j - (k + 1)) + 1 by omega]
      simp [List.getD]
    · rw [if_neg h1]
      by_cases h2 : j = k
      · subst h2
        rw [if_pos (by omega), Nat.sub_self]
        simp [List.getD, show j < L.length by omega]
      · rw [if_neg (by omega)]
        simp only [List.getD]; rw [List.getElem?_set_ne (by omega)]
theorem RowI.lays {lo g n cap : Nat} (vs : List Int) : ∀ {w : World} {L : List Int} (k : Nat), RowI w lo g n cap L → RowI (w.setCells g k (vs.map (Value.int .i64))) lo g n cap (lays L k vs) := by
  induction vs with
  | nil => intro w L k h; exact h
  | cons v r ih => intro w L k h; exact ih (k + 1) (h.stored k v)
theorem setCells_below {B g : Nat} {w0 : World} (vs : List Value) (hg : B ≤ g) : ∀ {w : World} (k : Nat), Below B w0 w → Below B w0 (w.setCells g k vs) := by
  induction vs with
  | nil => intro w k h; exact h
  | cons v r ih => intro w k h; exact ih (k + 1) (h.setCell (p := ⟨g, k, none⟩) hg v)
theorem setCells_same {g : Nat} {w0 : World} (vs : List Value) : ∀ {w : World} (k : Nat), Same g (g + 1) w0 w → Same g (g + 1) w0 (w.setCells g k vs) := by
  induction vs with
  | nil => intro w k h; exact h
  | cons v r ih => intro w k h; exact ih (k + 1) (h.setCell (p := ⟨g, k, none⟩) (Nat.le_refl _) (Nat.lt_succ_self _) v)
set_option maxHeartbeats 2000000 in
set_option maxRecDepth 100000 in
theorem slicesInsert_shift {lo g r c vb m : Nat} {R vs ys : List Int} (i : Nat) (w : World) (hR : RowI w lo g (r + m) c (R ++ ys)) (hRl : R.length = r) (hvl : vs.length = m) (hm : 0 < m) (hi : i < r)
    (hv : w.heap[vb]? = some (.cells (vs.map (Value.int .i64)).toArray 2 (0, 0))) (hne : vb ≠ g) :
    Calls Try.prog 95 #[.slice (some ⟨g, 0, none⟩) r c, .int .i64 i, .slice (some ⟨vb, 0, none⟩) m m] w fun e w' => e = .returned (.slice (some ⟨g, 0, none⟩) (r + m) c) ∧ w' = (w.drew.setCells g (i + m) ((R.drop i).map (Value.int .i64))).setCells g i (vs.map (Value.int .i64)) := by
  have hall := hR.length
  obtain ⟨cur, k1, k2, k3, k4⟩ := rowI_block hR
  have hc63 : c ≤ 9223372036854775807 := by unfold maxLen at k3; omega
  have hz1 : ¬ ((m : Int) = 0) := by omega
  have hz2 : ¬ ((i : Int) = (r : Int)) := by omega
  have hsz : (Try.prog.info? 2).map (·.size) = some 1 := by
    obtain ⟨i0, hi0, h0, h1, h2⟩ := info_parts info_i64
    rw [hi0]; simp [h1]
  have hov : ∀ lb cb, (callFunc 108 #[.slice (some ⟨vb, 0, none⟩) m m, .slice (some ⟨g, i + m, none⟩) lb cb]).run Try.prog w = .ok (.value (.bool false)) w := fun lb cb => by
    rw [run_callFunc_extern Try.func108 (by kernel_rfl) (by kernel_rfl) (by kernel_rfl) (e := Extern.SlicesOverlaps.overlaps #[25, 25] #[4]) (by kernel_rfl),
      Lib.run_overlaps_apart w 25 4 2 Try.underlying25 1 Try.sizeOf2 ⟨vb, 0, none⟩ ⟨g, i + m, none⟩ m m lb cb hne 2 2 m c (by simp [World.shape?, hv, hvl]) (by simp [World.shape?, k1, k4]) (by omega) (by simp [World.frozen?, hv]) (by simp [World.frozen?, hv])]
    rfl
  have hdl : ((R.drop i).map (Value.int .i64)).length = r - i := by rw [List.length_map, List.length_drop, hRl]
  have hw1 : IntKind.i64.wrap ((i : Int) + (m : Int)) = (i : Int) + (m : Int) := by rw [IntKind.wrap_i64]; omega
  have hb1 : (0 : Int) ≤ (i : Int) + (m : Int) := by omega
  have hin : i ≤ r := by omega
  have htn : ((i : Int) + (m : Int)).toNat = i + m := by omega
  have hb2 : ¬ (c = i + m) := by omega
  have hb3 : (i : Int) ≤ (r : Int) + (m : Int) := by omega
  have hb4 : ¬ (c = i) := by omega
  have hcell : ∀ (W : World), (∀ x, W.cell? x = w.cell? x) → ∀ j, j < r + m → (W.cell? ⟨g, j, none⟩).isSome = true := fun W hW j hj => by
    rw [hW, hR.cell hj]; rfl
  have hcp1 : ∀ ty dc sc, (Builtin.copy_ #[25, 25] ty #[.slice (some ⟨g, i + m, none⟩) (r + m - (i + m)) dc, .slice (some ⟨g, i, none⟩) (r + m - i) sc]).run Try.prog w.drew = .ok (goInt ((R.drop i).map (Value.int .i64)).length) (w.drew.setCells g (i + m) ((R.drop i).map (Value.int .i64))) := fun ty dc sc =>
    run_copy_cells w.drew _ _ ty 2 g (i + m) (r + m - (i + m)) dc ⟨g, i, none⟩ (r + m - i) sc _ Try.underlying25 hsz (by rw [hdl]; simp only [Nat.min_def]; split <;> omega)
      (fun j v hj => by
        rw [List.getElem?_map, List.getElem?_drop] at hj
        have hjl : i + j < R.length := by
          rcases Nat.lt_or_ge (i + j) R.length with h | h
          · exact h
          · rw [List.getElem?_eq_none h] at hj; cases hj
        rw [Addr.add_lit]
        show w.cell? ⟨g, i + j, none⟩ = _
        rw [hR.cell (by omega)]
        rw [List.getElem?_eq_getElem hjl] at hj
        rw [← hj]; simp [List.getD, List.getElem?_append_left hjl, hjl])
      (fun j hj => hcell _ (fun _ => rfl) _ (by omega)) (fun j hj => hR.frozen _) (fun v hv => by obtain ⟨z, _, rfl⟩ := List.mem_map.1 hv; rfl)
  obtain ⟨W1, hW1⟩ : ∃ W1, W1 = w.drew.setCells g (i + m) ((R.drop i).map (Value.int .i64)) := ⟨_, rfl⟩
  have hR1 : RowI W1 lo g (r + m) c (lays (R ++ ys) (i + m) (R.drop i)) := by rw [hW1]; exact RowI.lays _ _ (hR.drew ⟨1, rfl⟩)
  have hv1 : W1.heap[vb]? = some (.cells (vs.map (Value.int .i64)).toArray 2 (0, 0)) := by
    have hS := setCells_same (w0 := w.drew) ((R.drop i).map (Value.int .i64)) (i + m) (Same.refl g (g + 1) w.drew)
    rw [hW1, hS.block vb (lt_of_block hv) (by omega)]
    exact hv
  have hcp2 : ∀ (W : World), (∀ x, W.cell? x = W1.cell? x) → (∀ x, W.frozen? x = W1.frozen? x) → ∀ ty dc, (Builtin.copy_ #[25, 25] ty #[.slice (some ⟨g, i, none⟩) (r + m - i) dc, .slice (some ⟨vb, 0, none⟩) m m]).run Try.prog W = .ok (goInt (vs.map (Value.int .i64)).length) (W.setCells g i (vs.map (Value.int .i64))) := fun W hWc hWf ty dc =>
    run_copy_cells W _ _ ty 2 g i (r + m - i) dc ⟨vb, 0, none⟩ m m _ Try.underlying25 hsz (by rw [List.length_map, hvl]; simp only [Nat.min_def]; split <;> omega)
      (fun j v hj => by
        rw [Addr.add_lit, hWc]
        simp [World.cell?, hv1]
        simpa using hj)
      (fun j hj => by rw [hWc, hR1.cell (by rw [List.length_map] at hj; omega)]; rfl) (fun j hj => by rw [hWf]; exact hR1.frozen _) (fun v hv => by obtain ⟨z, _, rfl⟩ := List.mem_map.1 hv; rfl)
  rw [← hW1] at hcp1
  clear hcell hR1 hv1 hR hall k1 k4
  go_enter Try.func95, Try.ntmps95
  go_wp2_with (simp only [hov])
  go_region_law (refine step_copy_runI rfl _ _ 25 25 rfl _ _ (by simp [Act.eval, Act.put]) (by simp [Act.eval, Act.put]) (hcp1 _ _ _) ?_)
  go_wp2_with (at_builtin; refine wpList_copy_runI _ rfl _ _ 25 25 rfl _ _ rfl rfl (hcp2 _ (fun _ => rfl) (fun _ => rfl) _ _) ?_)
  go_ret
  exact ⟨rfl, by rw [List.map_drop]⟩
/-- one element is laid in at place i < r of a row that has room -/
theorem slicesInsert_one {lo g r c vb : Nat} {R : List Int} {x y : Int} (i : Nat) (w : World) (hR : RowI w lo g (r + 1) c (R ++ [y])) (hRl : R.length = r) (hi : i < r)
    (hv : w.heap[vb]? = some (.cells #[.int .i64 x] 2 (0, 0))) (hne : vb ≠ g) :
    Calls Try.prog 95 #[.slice (some ⟨g, 0, none⟩) r c, .int .i64 i, .slice (some ⟨vb, 0, none⟩) 1 1] w fun e w' => e = .returned (.slice (some ⟨g, 0, none⟩) (r + 1) c) ∧ RowI w' lo g (r + 1) c (R.take i ++ x :: R.drop i) ∧ ∀ B w0, B ≤ g → Below B w0 w → Below B w0 w' := by
  refine (slicesInsert_shift (m := 1) (vs := [x]) (ys := [y]) i w hR hRl rfl (by omega) hi hv hne).mono ?_
  rintro e w' ⟨rfl, rfl⟩
  have h1 : RowI (w.drew.setCells g (i + 1) ((R.drop i).map (Value.int .i64))) lo g (r + 1) c (lays (R ++ [y]) (i + 1) (R.drop i)) := RowI.lays _ _ (hR.drew ⟨1, rfl⟩)
  have h2 := RowI.lays [x] i h1
  have e : lays (lays (R ++ [y]) (i + 1) (R.drop i)) i [x] = R.take i ++ x :: R.drop i := by
    have hl1 : (lays (lays (R ++ [y]) (i + 1) (R.drop i)) i [x]).length = r + 1 := by rw [lays_len, lays_len]; simp [hRl]
    have hdl : (R.drop i).length = r - i := by rw [List.length_drop, hRl]
    have htl : (R.take i).length = i := by rw [List.length_take]; omega
    refine List.ext_getElem (by rw [hl1, List.length_append, htl, List.length_cons, hdl]; omega) fun j a1 a2 => ?_
    have e1 : (lays (lays (R ++ [y]) (i + 1) (R.drop i)) i [x]).getD j 0 = (R.take i ++ x :: R.drop i).getD j 0 := by
      rw [lays_getD _ _ _ _ (by rw [lays_len]; simp [hRl]; omega), lays_getD _ _ _ _ (by rw [hdl]; simp [hRl]; omega)]
      simp only [List.length_cons, List.length_nil, hdl]
      by_cases c1 : j = i
      · subst c1
        rw [if_pos (by omega), Nat.sub_self]
        simp only [List.getD]
        rw [List.getElem?_append_right (by omega), htl, Nat.sub_self]
        rfl
      · rw [if_neg (by omega)]
        by_cases c2 : j < i
        · rw [if_neg (by omega)]
          simp only [List.getD]
          rw [List.getElem?_append_left (by omega), List.getElem?_append_left (by omega), List.getElem?_take_of_lt c2]
        · rw [if_pos (by omega)]
          simp only [List.getD]
          rw [List.getElem?_append_right (by omega), htl, show j - i = (j - (i + 1)) + 1 by omega, List.getElem?_cons_succ]
    simp only [List.getD, List.getElem?_eq_getElem a1, List.getElem?_eq_getElem a2, Option.getD_some] at e1
    exact e1
  rw [e] at h2
  exact ⟨rfl, h2, fun B w0 hB hb => setCells_below _ hB _ (setCells_below _ hB _ (hb.trans ((show Drew w w.drew from ⟨1, rfl⟩).below _)))⟩
theorem rowI_none {w : World} {lo g n cap : Nat} {zs : List Int} (h : RowI w lo g n cap zs) : OwnI w lo w.heap.size (.slice (some ⟨g, 0, none⟩) 0 cap) [] := by
  obtain ⟨cur, k1, k2, k3, k4⟩ := rowI_block h
  refine ⟨⟨⟨rfl, .inr ⟨g, cap, cur, rfl, h.ge, k1, Nat.zero_le _, k3, by omega, by simp⟩⟩, fun k e => ?_, Nat.le_refl _⟩, by simp, by simp⟩
  simp [Value.ownBlock] at e
  subst e
  exact h.lt
set_option maxHeartbeats 1600000 in
set_option maxRecDepth 100000 in
theorem slicesInsert_empty {lo g c vb : Nat} {x : Int} (w : World) (hv : OwnI w lo w.heap.size (.slice (some ⟨g, 0, none⟩) 0 c) []) (hb : w.cell? ⟨vb, 0, none⟩ = some (.int .i64 x)) (hx : I64 x) (hlo : lo ≤ w.heap.size) :
    Calls Try.prog 95 #[.slice (some ⟨g, 0, none⟩) 0 c, .int .i64 0, .slice (some ⟨vb, 0, none⟩) 1 1] w fun e w' => ∃ u, e = .returned u ∧ OwnI w' lo w'.heap.size u [x] ∧ Same lo w.heap.size w w' := by
  have HV := Lib.hid hv
  clear hv
  go_enter Try.func95, Try.ntmps95
  go_wp2_with (at_builtin; refine wpList_appI rfl _ _ rfl _ [] rfl HV.out [x] ⟨vb, 0, none⟩ 1 rfl (by simp) (by simpa using hx) (fun j hj => by have h0 : j = 0 := by { simp at hj; exact hj }; subst h0; rw [add_zero_plain]; exact hb) (by simp) hlo ?_)
  intro v2 w3 ho2 hsm hz3 _
  have HO := Lib.hid ho2
  clear ho2
  go_wp2
  go_ret
  exact ⟨_, rfl, HO.out, hsm⟩
theorem slicesInsert_front {lo g M c vb : Nat} {R : List Int} {x y : Int} (w : World) (hR : RowI w lo g (M + 1) c (R ++ [y])) (hRl : R.length = M) (hv : w.heap[vb]? = some (.cells #[.int .i64 x] 2 (0, 0))) (hne : vb ≠ g) (hx : I64 x) (hRI : ∀ z ∈ R, I64 z) (hM : M ≤ 1000) (hlo : lo ≤ w.heap.size) :
    Calls Try.prog 95 #[.slice (some ⟨g, 0, none⟩) M c, .int .i64 0, .slice (some ⟨vb, 0, none⟩) 1 1] w fun e w' => ∃ u, e = .returned u ∧ OwnI w' lo w'.heap.size u (x :: R) ∧ ∀ B w0, B ≤ lo → Below B w0 w → Below B w0 w' := by
  by_cases h0 : 0 < M
  · have h : Calls Try.prog 95 #[.slice (some ⟨g, 0, none⟩) M c, .int .i64 0, .slice (some ⟨vb, 0, none⟩) 1 1] w fun e w' => e = .returned (.slice (some ⟨g, 0, none⟩) (M + 1) c) ∧ RowI w' lo g (M + 1) c (R.take 0 ++ x :: R.drop 0) ∧ ∀ B w0, B ≤ g → Below B w0 w → Below B w0 w' :=
      slicesInsert_one 0 w hR hRl h0 hv hne
    refine h.mono ?_
    rintro e w' ⟨rfl, hr, hb⟩
    have hr' : RowI w' lo g (M + 1) c (x :: R) := by simpa using hr
    exact ⟨_, rfl, hr'.own (hi := w'.heap.size) (fun z hz => by rcases List.mem_cons.1 hz with rfl | hz; exact hx; exact hRI z hz) (by omega) hr'.lt (Nat.le_refl _), fun B w0 hB h => hb B w0 (Nat.le_trans hB hr'.ge) h⟩
  · obtain rfl : M = 0 := by omega
    have hR0 : R = [] := List.eq_nil_of_length_eq_zero hRl
    subst hR0
    refine (slicesInsert_empty w (rowI_none hR) (by simp [World.cell?, hv]) hx hlo).mono ?_
    rintro e w' ⟨u, rfl, ho, hs⟩
    exact ⟨u, rfl, ho, fun B w0 hB h => h.trans (hs.below hB (Nat.le_trans hB hlo))⟩
end Go.Proofs.Ytkankfdpodofjaa
