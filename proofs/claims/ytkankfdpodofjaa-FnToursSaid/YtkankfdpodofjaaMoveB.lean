/-
  MoveTour: a tour with a city moved, by the program and by the reference.
-/
import Derived.Test.YtkankfdpodofjaaMoveA
import Derived.Test.YtkankfdpodofjaaLay
import Derived.Test.YtkankfdpodofjaaCopy
import Derived.Test.YtkankfdpodofjaaApp2
import Derived.Test.YtkankfdpodofjaaStepI
namespace Go.Proofs.Ytkankfdpodofjaa
open Go.RowKit
set_option linter.unusedVariables false
set_option maxRecDepth 100000

theorem alloc_belowI (w : World) (o : Obj) : Below w.heap.size w (w.alloc o) := (Below.refl _ _).alloc (Nat.le_refl _) o
theorem rowI_pre2 {w : World} {lo g n c : Nat} {A B : List Int} (h : RowI w lo g n c (A ++ B)) : RowI w lo g A.length c A := by
  have hl := h.length
  rw [List.length_append] at hl
  obtain ⟨cur, k1, k2, k3, k4⟩ := rowI_block h
  refine ⟨⟨by simp, .inr ⟨g, c, cur, rfl, h.ge, k1, by omega, k3, by simpa using k4, ?_⟩⟩⟩
  rcases h.row.row.2 with ⟨e, _⟩ | ⟨g', c', cur', e, h1, h2, h3, h4, h5, h6⟩
  · cases e
  · injection e with e1 _ e3
    injection e1 with e1
    injection e1 with e1
    subst e1
    rw [k1] at h2
    injection h2 with h2
    injection h2 with h2
    subst h2
    have : (cur.toList.take (n * 1)).take (A.length * 1) = ((A ++ B).map (Value.int .i64)).take A.length := by rw [h6, Nat.mul_one]
    rw [List.take_take, show min (A.length * 1) (n * 1) = A.length * 1 by omega] at this
    rw [this, List.map_append, List.take_append_of_le_length (by simp), List.take_of_length_le (by simp)]
theorem ints_dropM {w : World} {lo hi b off n c : Nat} {zs : List Int} (h : Ints w lo hi (.slice (some ⟨b, off, none⟩) n c) zs) (k : Nat) (hk : k ≤ n) : Ints w lo hi (.slice (some ⟨b, off + k, none⟩) (n - k) (c - k)) (zs.drop k) := by
  obtain ⟨a', cap', e, h1, h2, hd⟩ := h.out
  simp only [Value.slice.injEq] at e
  obtain ⟨rfl, rfl, rfl⟩ := e
  refine ⟨⟨some ⟨b, off + k, none⟩, c - k, by simp, by simp; omega, by omega, ?_⟩, fun x hx => h.rng x (List.mem_of_mem_drop hx)⟩
  rcases hd with rfl | ⟨b', off', r1, r2, r3, r4, hc⟩
  · exact .inl (by simp)
  · injection r1 with r1
    injection r1 with r1 r1'
    subst r1; subst r1'
    refine .inr ⟨b, off + k, rfl, r2, r3, r4, fun i hi => ?_⟩
    have := hc (k + i) (by simp at hi; omega)
    rw [show off + k + i = off + (k + i) by omega, this]
    simp [List.getD]
theorem ints_emptyM (w : World) (lo hi : Nat) (a : Option Addr) (c : Nat) (hc : c ≤ 9223372036854775807) : Ints w lo hi (.slice a 0 c) [] := ⟨⟨a, c, rfl, by simp, hc, .inl (by simp)⟩, by simp⟩
set_option maxHeartbeats 1600000 in
set_option maxRecDepth 100000 in
theorem slicesInsert_end {lo g r c vb : Nat} {x : Int} {R : List Int} (w : World) (hv : OwnI w lo w.heap.size (.slice (some ⟨g, 0, none⟩) r c) R) (hRl : R.length = r) (hrc : r < c) (hc : c ≤ 9223372036854775807) (hr : r ≤ 1000) (hb : w.cell? ⟨vb, 0, none⟩ = some (.int .i64 x)) (hx : I64 x) (hlo : lo ≤ w.heap.size) :
    Calls Try.prog 95 #[.slice (some ⟨g, 0, none⟩) r c, .int .i64 r, .slice (some ⟨vb, 0, none⟩) 1 1] w fun e w' => ∃ u, e = .returned u ∧ OwnI w' lo w'.heap.size u (R ++ [x]) ∧ Same lo w.heap.size w w' := by
  have HV := Lib.hid hv
  have h1 : ¬ c = r := by omega
  have h2 : ¬ r = c := by omega
  have h3 : (r : Int) ≤ (c : Int) := by omega
  have HRL : Hid (R.length + [x].length ≤ 1099511627776) := by rw [Hid, hRl]; simp; omega
  have e1 : ((r : Int) == (r : Int)) = true := by simp
  clear hv hRl
  go_enter Try.func95, Try.ntmps95
  go_wp2_with (at_builtin; refine wpList_appI rfl _ _ rfl _ R rfl HV.out [x] ⟨vb, 0, none⟩ 1 rfl (by simp) (by simpa using hx) (fun j hj => by have h0 : j = 0 := by { simp at hj; exact hj }; subst h0; rw [add_zero_plain]; exact hb) HRL.out hlo ?_)
  intro v2 w3 ho2 hsm hz3 _
  have HO := Lib.hid ho2
  clear ho2
  go_wp2
  go_ret
  exact ⟨_, rfl, HO.out, hsm⟩
set_option maxHeartbeats 1600000 in
set_option maxRecDepth 100000 in
theorem moved_any {l h : Nat} (v : Value) (A : List Int) (i k : Nat) (w : World) (hv : Ints w l h v A) (hh : h ≤ w.heap.size) (hi : i < A.length) (hk : k < A.length) (hl : A.length ≤ 100) :
    Calls Try.prog 80 #[v, .int .i64 i, .int .i64 k] w fun e w' => ∃ u, e = .returned u ∧ OwnI w' w.heap.size w'.heap.size u (movedP A i k) ∧ Below w.heap.size w w' := by
  have HCP := Lib.hid (copyInts_any v A w hv hh (by omega))
  obtain ⟨ua, uc, rfl, gc1, gc2, gd⟩ := hv.out
  rcases gd with gd | ⟨ub, uoff, rfl, gb1, gb2, gb3, gcell⟩
  · rw [gd] at hi; simp at hi
  have hci := gcell i hi
  have hxr : I64 (A.getD i 0) := hv.rng _ (getD_memI hi)
  have HRNG := Lib.hid hv.rng
  obtain ⟨r, hr⟩ : ∃ r, A.length = r + 1 := ⟨A.length - 1, by omega⟩
  have HR := Lib.hid hr
  have HRL : Hid ((restP A i).length = r) := by rw [Hid, restP_len hi, hr]; omega
  have HMV : Hid (movedP A i k = (restP A i).take k ++ A.getD i 0 :: (restP A i).drop k) := rfl
  have HRP : Hid (restP A i = A.take i ++ A.drop (i + 1)) := rfl
  have HRR : Hid (∀ z ∈ restP A i, I64 z) := fun z hz => by
    rcases List.mem_append.1 hz with hz | hz
    · exact HRNG.out z (List.mem_of_mem_take hz)
    · exact HRNG.out z (List.mem_of_mem_drop hz)
  obtain ⟨x, hx⟩ : ∃ x, x = A.getD i 0 := ⟨_, rfl⟩
  rw [← hx] at hci hxr HMV
  rw [hr] at hi hk hl gc1 HCP ⊢
  have HCI := Lib.hid hci
  have HXR := Lib.hid hxr
  clear hv gcell hr hx hci hxr
  go_enter Try.func80, Try.ntmps80
  go_wp2_with fail
  refine HCP.out.mono ?_
  rintro e w1 ⟨u, rfl, ho1, hb1⟩
  rcases ho1.rowOf with ⟨_, h0⟩ | ⟨g, cap, e1, hg1, hg2, hg3, hrow⟩
  · exfalso; have := HR.out; rw [h0] at this; simp at this
  rw [HR.out] at e1 hg2 hrow
  subst e1
  have HB1 := Lib.hid hb1
  have hgge := hrow.ge
  have hsz1 := hb1.size
  have HDEL := Lib.hid (slicesDelete_any i w1 hrow hi)
  rw [Nat.add_sub_cancel] at HDEL
  clear ho1 hb1 hrow
  go_wp2_with fail
  refine HDEL.out.mono ?_
  rintro e w2 ⟨rfl, hr2, hb2⟩
  have HB2 := Lib.hid (hb2 _ _ hgge HB1.out)
  have hsz2 := HB2.out.size
  have hci2 : w2.cell? ⟨ub, uoff + i, none⟩ = some (.int .i64 x) := by rw [HB2.out.cell (p := ⟨ub, uoff + i, none⟩) (show ub < w.heap.size by omega)]; exact HCI.out
  obtain ⟨w3, hw3⟩ : ∃ w3, w3 = w2.alloc (.cells #[.int .i64 x] 2) := ⟨_, rfl⟩
  have hr3 : RowI w3 w.heap.size g (r + 1) cap (restP A i ++ [0]) := by rw [hw3]; exact hr2.alloc _
  have hgl := hr2.lt
  have hne : w2.heap.size ≠ g := by omega
  have hvb : w3.heap[w2.heap.size]? = some (.cells #[.int .i64 x] 2 (0, 0)) := by rw [hw3]; exact heap_alloc_new w2 _
  have HB3 : Hid (Below w.heap.size w w3) := by rw [hw3]; exact HB2.out.alloc hsz2 _
  have hs3 : w3.heap.size = w2.heap.size + 1 := by rw [hw3]; simp
  have HW3 := Lib.hid hw3
  have hs3' : w2.heap.size + 1 ≤ w3.heap.size := by omega
  by_cases hkr : k < r
  · have HINS := Lib.hid (slicesInsert_one k w3 hr3 HRL.out hkr hvb hne)
    clear hr2 hb2 hr3 hvb hw3 hs3
    go_wp2_with fail
    rw [← HW3.out]
    refine HINS.out.mono ?_
    rintro e w4 ⟨rfl, hr4, hb4⟩
    have HR4 := Lib.hid hr4
    have HB4 := Lib.hid (hb4 _ _ hgge HB3.out)
    clear hr4 hb4
    go_wp2
    go_ret
    exact ⟨_, rfl, by rw [HMV.out]; exact HR4.out.own (hi := w4.heap.size) (fun z hz => by
      rcases List.mem_append.1 hz with hz | hz
      · exact HRR.out z (List.mem_of_mem_take hz)
      · rcases List.mem_cons.1 hz with rfl | hz
        · exact HXR.out
        · exact HRR.out z (List.mem_of_mem_drop hz)) (by omega) HR4.out.lt (Nat.le_refl _), HB4.out⟩
  · obtain rfl : k = r := by omega
    have hpre := rowI_pre2 hr3
    rw [HRL.out] at hpre
    have hown : OwnI w3 w.heap.size w3.heap.size (.slice (some ⟨g, 0, none⟩) k cap) (restP A i) := hpre.own HRR.out (by omega) hpre.lt (Nat.le_refl _)
    have HINS := Lib.hid (slicesInsert_end (vb := w2.heap.size) (x := x) w3 hown HRL.out (by omega) hg3 (by omega) (by simp [World.cell?, hvb]) HXR.out (by omega))
    have HMV2 : Hid (movedP A i k = restP A i ++ [x]) := by rw [Hid, HMV.out, List.take_of_length_le (by rw [HRL.out]; exact Nat.le_refl _), List.drop_eq_nil_of_le (by rw [HRL.out]; exact Nat.le_refl _)]
    clear hr2 hb2 hr3 hvb hw3 hs3 hpre hown
    go_wp2_with fail
    rw [← HW3.out]
    refine HINS.out.mono ?_
    rintro e w4 ⟨u4, rfl, ho4, hb4⟩
    have HO4 := Lib.hid ho4
    have HB4 := Lib.hid (HB3.out.trans (hb4.below (Nat.le_refl _) (by omega)))
    clear ho4 hb4
    go_wp2
    go_ret
    exact ⟨_, rfl, by rw [HMV2.out]; exact HO4.out, HB4.out⟩
end Go.Proofs.Ytkankfdpodofjaa
