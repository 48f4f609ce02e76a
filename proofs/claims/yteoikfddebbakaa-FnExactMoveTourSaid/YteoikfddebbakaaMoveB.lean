/-
  MoveTour: a tour with a city moved, by the program and by the reference.
-/
import Derived.Test.YteoikfddebbakaaMoveA
import Derived.Test.YteoikfddebbakaaLay
import Derived.Test.YteoikfddebbakaaCopy
import Derived.Test.YteoikfddebbakaaApp2
import Derived.Test.YteoikfddebbakaaStepI
namespace Go.Proofs.Yteoikfddebbakaa
open Go.RowKit
set_option linter.unusedVariables false
set_option maxRecDepth 100000

theorem alloc_belowI (w : World) (o : Obj) : Below w.heap.size w (w.alloc o) := (Below.refl _ _).alloc (Nat.le_refl _) o
theorem rowI_pre2 {w : World} {lo g n c : Nat} {A B : List Int} (h : RowI w lo g n c (A ++ B)) : RowI w lo g A.length c A := by
  have hl := h.length
  rw [List.length_append] at hl
  obtain ⟨cur, k1, k2, k3, k4⟩ := rowI_block h
  refine ⟨⟨by simp, .inr ⟨g, c, cur, rfl, h.ge, k1, by omega, k3, by simpa using k4, ?_⟩⟩⟩
  rcases h.row.row.2 with ⟨e, _⟩ | ⟨g', c', cur', e, h1, h2, h3, h4, h5, h6⟩
  · cases e
  · injection e with e1 _ e3
    injection e1 with e1
    injection e1 with e1
    subst e1
    rw [k1] at h2
    injection h2 with h2
    injection h2 with h2
    subst h2
    have : (cur.toList.take (n * 1)).take (A.length * 1) = ((A ++ B).map (Value.int .i64)).take A.length := by rw [h6, Nat.mul_one]
    rw [List.take_take, show min (A.length * 1) (n * 1) = A.length * 1 by omega] at this
    rw [this, List.map_append, List.take_append_of_le_length (by simp), List.take_of_length_le (by simp)]
theorem ints_dropM {w : World} {lo hi b off n c : Nat} {zs : List Int} (h : Ints w lo hi (.slice (some ⟨b, off, none⟩) n c) zs) (k : Nat) (hk : k ≤ n) : Ints w lo hi (.slice (some ⟨b, off + k, none⟩) (n - k) (c - k)) (zs.drop k) := by
  obtain ⟨a', cap', e, h1, h2, hd⟩ := h.out
  simp only [Value.slice.injEq] at e
  obtain ⟨rfl, rfl, rfl⟩ := e
  refine ⟨⟨some ⟨b, off + k, none⟩, c - k, by simp, by simp; omega, by omega, ?_⟩, fun x hx => h.rng x (List.mem_of_mem_drop hx)⟩
  rcases hd with rfl | ⟨b', off', r1, r2, r3, r4, hc⟩
  · exact .inl (by simp)
  · injection r1 with r1
    injection r1 with r1 r1'
    subst r1; subst r1'
    refine .inr ⟨b, off + k, rfl, r2, r3, r4, fun i hi => ?_⟩
    have := hc (k + i) (by simp at hi; omega)
    rw [show off + k + i = off + (k + i) by omega, this]
    simp [List.getD]
theorem ints_emptyM (w : World) (lo hi : Nat) (a : Option Addr) (c : Nat) (hc : c ≤ 9223372036854775807) : Ints w lo hi (.slice a 0 c) [] := ⟨⟨a, c, rfl, by simp, hc, .inl (by simp)⟩, by simp⟩
set_option maxHeartbeats 1600000 in
set_option maxRecDepth 100000 in
theorem slicesInsert_end {lo g r c vb : Nat} {x : Int} {R : List Int} (w : World) (hv : OwnI w lo w.heap.size (.slice (some ⟨g, 0, none⟩) r c) R) (hRl : R.length = r) (hrc : r < c) (hc : c ≤ 9223372036854775807) (hr : r ≤ 1000) (hb : w.cell? ⟨vb, 0, none⟩ = some (.int .i64 x)) (hx : I64 x) (hlo : lo ≤ w.heap.size) :
    Calls Try.prog 99 #[.slice (some ⟨g, 0, none⟩) r c, .int .i64 r, .slice (some ⟨vb, 0, none⟩) 1 1] w fun e w' => ∃ u, e = .returned u ∧ OwnI w' lo w'.heap.size u (R ++ [x]) ∧ Same lo w.heap.size w w' := by
  have HV := Lib.hid hv
  have h1 : ¬ c = r := by omega
  have h2 : ¬ r = c := by omega
  have h3 : (r : Int) ≤ (c : Int) := by omega
  have HRL : Hid (R.length + [x].length ≤ 1099511627776) := by rw [Hid, hRl]; simp; omega
  have e1 : ((r : Int) == (r : Int)) = true := by simp
  clear hv hRl
  go_enter Try.func99, Try.ntmps99
  go_wp2_with (at_builtin; refine wpList_appI rfl _ _ rfl _ R rfl HV.out [x] ⟨vb, 0, none⟩ 1 rfl (by simp) (by simpa using hx) (fun j hj => by have h0 : j = 0 := by { simp at hj; exact hj }; subst h0; rw [add_zero_plain]; exact hb) HRL.out hlo ?_)
  intro v2 w3 ho2 hsm hz3 _
  have HO := Lib.hid ho2
  clear ho2
  go_wp2
  go_ret
  exact ⟨_, rfl, HO.out, hsm⟩
set_option maxHeartbeats 1600000 in
set_option maxRecDepth 100000 in
theorem moved_any {l h : Nat} (v : Value) (A : List Int) (i k : Nat) (w : World) (hv : Ints w l h v A) (hh : h ≤ w.heap.size) (hi : i < A.length) (hk : k < A.length) (hl : A.length ≤ 100) :
    Calls Try.prog 69 #[v, .int .i64 i, .int .i64 k] w fun e w' => ∃ u, e = .returned u ∧ OwnI w' w.heap.size w'.heap.size u (movedP A i k) ∧ Below w.heap.size w w' := by
  have HCP := Lib.hid (copyInts_any v A w hv hh (by omega))
  obtain ⟨ua, uc, rfl, gc1, gc2, gd⟩ := hv.out
  rcases gd with gd | ⟨ub, uoff, rfl, gb1, gb2, gb3, gcell⟩
  · rw [gd] at hi; simp at hi
  have hci := gcell i hi
  have hxr : I64 (A.getD i 0) := hv.rng _ (getD_memI hi)
  have HRNG := Lib.hid hv.rng
  obtain ⟨r, hr⟩ : ∃ r, A.length = r + 1 := ⟨A.length - 1, by omega⟩
  have HR := Lib.hid hr
  have HRL : Hid ((restP A i).length = r) := by rw [Hid, restP_len hi, hr]; omega
  have HMV : Hid (movedP A i k = (restP A i).take k ++ A.getD i 0 :: (restP A i).drop k) := rfl
  have HRP : Hid (restP A i = A.take i ++ A.drop (i + 1)) := rfl
  have HRR : Hid (∀ z ∈ restP A i, I64 z) := fun z hz => by
    rcases List.mem_append.1 hz with hz | hz
    · exact HRNG.out z (List.mem_of_mem_take hz)
    · exact HRNG.out z (List.mem_of_mem_drop hz)
  obtain ⟨x, hx⟩ : ∃ x, x = A.getD i 0 := ⟨_, rfl⟩
  rw [← hx] at hci hxr HMV
  rw [hr] at hi hk hl gc1 HCP ⊢
  have HCI := Lib.hid hci
  have HXR := Lib.hid hxr
  clear hv gcell hr hx hci hxr
  go_enter Try.func69, Try.ntmps69
  go_wp2_with fail
  refine HCP.out.mono ?_
  rintro e w1 ⟨u, rfl, ho1, hb1⟩
  rcases ho1.rowOf with ⟨_, h0⟩ | ⟨g, cap, e1, hg1, hg2, hg3, hrow⟩
  · exfalso; have := HR.out; rw [h0] at this; simp at this
  rw [HR.out] at e1 hg2 hrow
  subst e1
  have HB1 := Lib.hid hb1
  have hgge := hrow.ge
  have hsz1 := hb1.size
  have HDEL := Lib.hid (slicesDelete_any i w1 hrow hi)
  rw [Nat.add_sub_cancel] at HDEL
  clear ho1 hb1 hrow
  go_wp2_with fail
  refine HDEL.out.mono ?_
  rintro e w2 ⟨rfl, hr2, hb2⟩
  have HB2 := Lib.hid (hb2 _ _ hgge HB1.out)
  have hsz2 := HB2.out.size
  have hci2 : w2.cell? ⟨ub, uoff + i, none⟩ = some (.int .i64 x) := by rw [HB2.out.cell (p := ⟨ub, uoff + i, none⟩) (show ub < w.heap.size by omega)]; exact HCI.out
  obtain ⟨w3, hw3⟩ : ∃ w3, w3 = w2.alloc (.cells #[.int .i64 x] 2) := ⟨_, rfl⟩
  have hr3 : RowI w3 w.heap.size g (r + 1) cap (restP A i ++ [0]) := by rw [hw3]; exact hr2.alloc _
  have hgl := hr2.lt
  have hne : w2.heap.size ≠ g := by omega
  have hvb : w3.heap[w2.heap.size]? = some (.cells #[.int .i64 x] 2 (0, 0)) := by rw [hw3]; exact heap_alloc_new w2 _
  have HB3 : Hid (Below w.heap.size w w3) := by rw [hw3]; exact HB2.out.alloc hsz2 _
  have hs3 : w3.heap.size = w2.heap.size + 1 := by rw [hw3]; simp
  have HW3 := Lib.hid hw3
  have hs3' : w2.heap.size + 1 ≤ w3.heap.size := by omega
  by_cases hkr : k < r
  · have HINS := Lib.hid (slicesInsert_one k w3 hr3 HRL.out hkr hvb hne)
    clear hr2 hb2 hr3 hvb hw3 hs3
    go_wp2_with fail
    rw [← HW3.out]
    refine HINS.out.mono ?_
    rintro e w4 ⟨rfl, hr4, hb4⟩
    have HR4 := Lib.hid hr4
    have HB4 := Lib.hid (hb4 _ _ hgge HB3.out)
    clear hr4 hb4
    go_wp2
    go_ret
    exact ⟨_, rfl, by rw [HMV.out]; exact HR4.out.own (hi := w4.heap.size) (fun z hz => by
      rcases List.mem_append.1 hz with hz | hz
      · exact HRR.out z (List.mem_of_mem_take hz)
      · rcases List.mem_cons.1 hz with rfl | hz
        · exact HXR.out
        · exact HRR.out z (List.mem_of_mem_drop hz)) (by omega) HR4.out.lt (Nat.le_refl _), HB4.out⟩
  · obtain rfl : k = r := by omega
    have hpre := rowI_pre2 hr3
    rw [HRL.out] at hpre
    have hown : OwnI w3 w.heap.size w3.heap.size (.slice (some ⟨g, 0, none⟩) k cap) (restP A i) := hpre.own HRR.out (by omega) hpre.lt (Nat.le_refl _)
    have HINS := Lib.hid (slicesInsert_end (vb := w2.heap.size) (x := x) w3 hown HRL.out (by omega) hg3 (by omega) (by simp [World.cell?, hvb]) HXR.out (by omega))
    have HMV2 : Hid (movedP A i k = restP A i ++ [x]) := by rw [Hid, HMV.out, List.take_of_length_le (by rw [HRL.out]; exact Nat.le_refl _), List.drop_eq_nil_of_le (by rw [HRL.out]; exact Nat.le_refl _)]
    clear hr2 hb2 hr3 hvb hw3 hs3 hpre hown
    go_wp2_with fail
    rw [← HW3.out]
    refine HINS.out.mono ?_
    rintro e w4 ⟨u4, rfl, ho4, hb4⟩
    have HO4 := Lib.hid ho4
    have HB4 := Lib.hid (HB3.out.trans (hb4.below (Nat.le_refl _) (by omega)))
    clear ho4 hb4
    go_wp2
    go_ret
    exact ⟨_, rfl, by rw [HMV2.out]; exact HO4.out, HB4.out⟩
def restTo (A : List Int) (i j : Nat) : List Int := if j ≤ i then A.take j else A.take i ++ (A.drop (i + 1)).take (j - (i + 1))
theorem restTo_skip {A : List Int} {i : Nat} : restTo A i (i + 1) = restTo A i i := by
  rw [restTo, restTo, if_neg (by omega), if_pos (Nat.le_refl _), Nat.sub_self]; simp
theorem restTo_succ {A : List Int} {i j : Nat} (hj : j < A.length) (hne : j ≠ i) : restTo A i (j + 1) = restTo A i j ++ [A.getD j 0] := by
  have hg : A.getD j 0 = A[j] := by simp [List.getD, hj]
  rw [hg]
  by_cases h : j < i
  · rw [restTo, restTo, if_pos (by omega), if_pos (by omega), List.take_succ_eq_append_getElem hj]
  · rw [restTo, restTo, if_neg (by omega), if_neg (by omega), List.append_assoc, show j + 1 - (i + 1) = (j - (i + 1)) + 1 by omega, List.take_succ_eq_append_getElem (by simp; omega), List.getElem_drop]
    congr 4
    omega
theorem restTo_all {A : List Int} {i : Nat} (hi : i < A.length) : restTo A i A.length = restP A i := by
  rw [restTo, if_neg (by omega), restP, List.take_of_length_le (l := A.drop (i + 1)) (by simp)]
theorem restTo_len (A : List Int) (i j : Nat) : (restTo A i j).length ≤ A.length := by
  unfold restTo
  split
  · simp; omega
  · simp; omega
set_option maxHeartbeats 2000000 in
set_option maxRecDepth 100000 in
theorem l04Moved_any {l h : Nat} (v : Value) (A : List Int) (i k : Nat) (w : World) (hv : Ints w l h v A) (hh : h ≤ w.heap.size) (hi : i < A.length) (hk : k < A.length) (hl : A.length ≤ 100) :
    Calls Try.prog 65 #[v, .int .i64 i, .int .i64 k] w fun e w' => ∃ u, e = .returned u ∧ OwnI w' w.heap.size w'.heap.size u (movedP A i k) ∧ Below w.heap.size w w' := by
  obtain ⟨ua, uc, rfl, gc1, gc2, gd⟩ := hv.out
  rcases gd with gd | ⟨ub, uoff, rfl, gb1, gb2, gb3, gcell⟩
  · rw [gd] at hi; simp at hi
  have GC := Lib.hid gcell
  have HRNG := Lib.hid hv.rng
  obtain ⟨w1, hw1⟩ : ∃ w1, w1 = w.alloc (.cells #[] 2) := ⟨_, rfl⟩
  have H1 : Hid (OwnI w1 w.heap.size w1.heap.size (.slice (some ⟨w.heap.size, 0, none⟩) 0 0) []) := by
    have := emptySlice w; rw [← hw1] at this; exact this.mono (Nat.le_refl _) (by rw [hw1]; simp) (Nat.le_refl _)
  have HB1 : Hid (Below w.heap.size w w1) := by rw [hw1]; exact (Below.refl _ _).alloc (Nat.le_refl _) _
  have HW1 := Lib.hid hw1
  obtain ⟨L, hL⟩ : ∃ L, L = A.length := ⟨_, rfl⟩
  have HL := Lib.hid hL
  rw [← hL] at hi hk hl gc1 ⊢
  have HR0 : Hid (restTo A i 0 = []) := by rw [Hid, restTo, if_pos (Nat.zero_le _)]; rfl
  clear hv gcell hw1 hL
  go_enter Try.func65, Try.ntmps65
  go_wp2_with fail
  rw [← HW1.out]
  go_loopw [7, 8] (fun rv jv wr => ∃ j : Nat, j ≤ L ∧ jv = .int .i64 j ∧ Hid (OwnI wr w.heap.size wr.heap.size rv (restTo A i j)) ∧ Hid (Below w.heap.size w wr) ∧ Hid (∃ p, rv.ownBlock = some p)) (fun _ jv _ => L - (intOf jv).toNat)
  case atStart => exact ⟨0, Nat.zero_le _, rfl, by rw [HR0.out]; exact H1, HB1, ⟨_, rfl⟩⟩
  case round =>
    clear H1 HB1
    obtain ⟨j, hj, rfl, HO, HB, HNN⟩ := hrel
    have hs := HB.out.size
    by_cases hjL : j < L
    · by_cases hji : j = i
      · subst hji
        have HS := Lib.hid (restTo_skip (A := A) (i := j))
        go_wp2
        go_roundw
        case rel => exact ⟨j + 1, by omega, by go_num, by rw [HS.out]; exact HO, HB, HNN⟩
        case measure => (simp [intOf]; try omega)
      · have e1 : ((j : Int) == (i : Int)) = false := by (simp; omega)
        have e2 : (j == i) = false := by (simp; omega)
        have e3 : ((j : Int) != (i : Int)) = true := by (simp; omega)
        have e4 : (j != i) = true := by (simp; omega)
        have hcj : wr.cell? ⟨ub, uoff + j, none⟩ = some (.int .i64 (A.getD j 0)) := by rw [HB.out.cell (p := ⟨ub, uoff + j, none⟩) (show ub < w.heap.size by omega)]; exact GC.out j (by rw [← HL.out]; exact hjL)
        have HS := Lib.hid (restTo_succ (A := A) (i := i) (j := j) (by rw [← HL.out]; exact hjL) hji)
        have hxr : I64 (A.getD j 0) := HRNG.out _ (getD_memI (by rw [← HL.out]; exact hjL))
        have hlen := restTo_len A i j
        obtain ⟨x, hx⟩ : ∃ x, x = A.getD j 0 := ⟨_, rfl⟩
        rw [← hx] at hcj HS hxr
        have HXR := Lib.hid hxr
        have HLN : Hid ((restTo A i j).length + 1 ≤ 1099511627776) := by rw [Hid]; have := HL.out; omega
        obtain ⟨oa, oc, rfl⟩ := HO.out.shape2
        clear hx hxr hlen
        go_wp2_with (at_builtin; refine wpList_app1 rfl _ _ rfl _ (restTo A i j) rfl x _ HO.out rfl HXR.out HLN.out hs ?_)
        intro v3 w3 ho3 hsm3 hz3 hbl3
        have HN3 : Hid (∃ p, v3.ownBlock = some p) := by
          rcases hbl3 with h' | h'
          · obtain ⟨p, hp⟩ := HNN.out; exact ⟨p, h'.trans hp⟩
          · exact ⟨_, h'⟩
        have HO3 : Hid (OwnI w3 w.heap.size w3.heap.size v3 (restTo A i (j + 1))) := by rw [Hid, HS.out]; exact ho3
        have HB3 := Lib.hid (HB.out.trans (hsm3.below (Nat.le_refl _) hs))
        clear ho3 hsm3 hz3 hbl3
        go_wp2
        go_roundw
        case rel => exact ⟨j + 1, by omega, by go_num, HO3, HB3, HN3⟩
        case measure => (simp [intOf]; try omega)
    · obtain rfl : j = L := by omega
      have HRA : Hid (restTo A i j = restP A i) := by rw [Hid, HL.out]; exact restTo_all (by rw [← HL.out]; exact hi)
      have HO1 := HO.out
      rw [HRA.out] at HO1
      obtain ⟨r, hr⟩ : ∃ r, j = r + 1 := ⟨j - 1, by omega⟩
      have HRL : Hid ((restP A i).length = r) := by rw [Hid, restP_len (by rw [← HL.out]; exact hi), ← HL.out, hr]; omega
      have HRR : Hid (∀ z ∈ restP A i, I64 z) := fun z hz => by
        rcases List.mem_append.1 hz with hz | hz
        · exact HRNG.out z (List.mem_of_mem_take hz)
        · exact HRNG.out z (List.mem_of_mem_drop hz)
      have HMV : Hid (movedP A i k = (restP A i).take k ++ A.getD i 0 :: (restP A i).drop k) := rfl
      have hxr : I64 (A.getD i 0) := HRNG.out _ (getD_memI (by rw [← HL.out]; exact hi))
      have HCI : Hid (∀ wx, Below w.heap.size w wx → wx.cell? ⟨ub, uoff + i, none⟩ = some (.int .i64 (A.getD i 0))) := fun wx hb => by
        rw [hb.cell (p := ⟨ub, uoff + i, none⟩) (show ub < w.heap.size by omega)]; exact GC.out i (by rw [← HL.out]; exact hi)
      obtain ⟨x, hx⟩ : ∃ x, x = A.getD i 0 := ⟨_, rfl⟩
      rw [← hx] at HMV hxr HCI
      have HXR := Lib.hid hxr
      have hkr : k ≤ r := by omega
      have HTL : Hid (((restP A i).take k).length = k) := by rw [Hid, List.length_take, HRL.out]; omega
      have H0 := Lib.hid (emptySlice wr)
      have HAB := Lib.hid (alloc_belowI wr (.cells #[] 2))
      have HLW : Hid (wr.heap.size ≤ (wr.alloc (.cells #[] 2)).heap.size) := by rw [Hid]; simp
      have hxl : r ≤ 100 := by omega
      rcases HO1.rowOf with ⟨e0, h0⟩ | ⟨g, cap, e0, hg1, hg2, hg3, hrow⟩
      · exfalso
        obtain ⟨p, hp⟩ := HNN.out
        rw [e0] at hp
        cases hp
      · rw [HRL.out] at e0 hg2 hrow
        subst e0
        have hgl := hrow.lt
        have HRD := Lib.hid (hrow.rd (hi := wr.heap.size) HRR.out hgl (Nat.le_refl _))
        have HRDA : Hid (Ints (wr.alloc (.cells #[] 2)) w.heap.size wr.heap.size (.slice (some ⟨g, 0, none⟩) k cap) ((restP A i).take k)) :=
          (HRD.out.take (k := k) (by rw [HRL.out]; exact hkr)).below HAB.out (Nat.le_refl _)
        have HLN : Hid (([] : List Int).length + ((restP A i).take k).length ≤ 1099511627776) := by rw [Hid, HTL.out]; simp; omega
        have k1 : (k : Int) ≤ (cap : Int) := by omega
        have k2 : k ≤ cap := by omega
        clear hr hx hxr HO HO1 hrow
        go_wp2_with (at_builtin; refine wpList_appIs rfl _ _ rfl _ [] rfl H0.out _ ((restP A i).take k) rfl HRDA.out HLN.out HLW.out ?_)
        intro v3 w3 ho3 hsm3 hz3 _
        have ho3' : OwnI w3 wr.heap.size w3.heap.size v3 ((restP A i).take k) := by simpa using ho3
        have HO3 := Lib.hid ho3'
        have hbw3 : Below wr.heap.size wr w3 := HAB.out.trans (hsm3.below (Nat.le_refl _) HLW.out)
        have HB3 := Lib.hid (HB.out.trans (hbw3.mono hs))
        have HBW3 := Lib.hid hbw3
        have hz33 : wr.heap.size ≤ w3.heap.size := hbw3.size
        have hc3 := HCI.out w3 HB3.out
        obtain ⟨oa, oc, e3⟩ := HO3.out.shape2
        rw [HTL.out] at e3
        subst e3
        have HLN2 : Hid (((restP A i).take k).length + 1 ≤ 1099511627776) := by rw [Hid, HTL.out]; omega
        clear ho3 ho3' hsm3 hz3 hbw3
        go_wp2_with (at_builtin; refine wpList_app1 rfl _ _ rfl _ ((restP A i).take k) rfl x _ HO3.out rfl HXR.out HLN2.out hz33 ?_)
        intro v4 w4 ho4 hsm4 hz4 _
        have HO4 := Lib.hid ho4
        have HBW4 := Lib.hid (HBW3.out.trans (hsm4.below (Nat.le_refl _) hz33))
        have HB4 := Lib.hid (HB.out.trans (HBW4.out.mono hs))
        have hz44 : wr.heap.size ≤ w4.heap.size := HBW4.out.size
        have HRD4 := Lib.hid (HRD.out.below HBW4.out (Nat.le_refl _))
        have HLN3 : Hid (((restP A i).take k ++ [x]).length + ((restP A i).drop k).length ≤ 1099511627776) := by rw [Hid, List.length_append, HTL.out, List.length_drop, HRL.out]; simp; omega
        have HT4 : Hid (((restP A i).take k ++ [x]).length = k + 1) := by rw [Hid, List.length_append, HTL.out]; rfl
        obtain ⟨qa, qc, e4⟩ := HO4.out.shape2
        rw [HT4.out] at e4
        subst e4
        clear ho4 hsm4 hz4 hc3
        by_cases hck : cap = k
        · have hrk : r = k := by omega
          have HDE : Hid ((restP A i).drop k = []) := by rw [Hid]; exact List.drop_eq_nil_of_le (by rw [HRL.out]; omega)
          have hck2 : (cap : Int) = (k : Int) := by omega
          have hE4 : ∀ a c, c ≤ 9223372036854775807 → Ints w4 w.heap.size w4.heap.size (.slice a 0 c) ((restP A i).drop k) := fun a c hc => by rw [HDE.out]; exact ints_emptyM _ _ _ _ _ hc
          have HE4 := Lib.hid hE4
          clear hE4 hck2
          subst hck
          subst hrk
          go_wp2_with (at_builtin; refine wpList_appIs rfl _ _ rfl _ ((restP A i).take _ ++ [x]) rfl HO4.out _ ((restP A i).drop _) rfl (HE4.out _ _ (by omega)) HLN3.out hz44 ?_)
          intro v5 w5 ho5 hsm5 hz5 _
          have HO5 := Lib.hid ho5
          have HB5 := Lib.hid (HB4.out.trans ((hsm5.below (Nat.le_refl _) hz44).mono hs))
          clear ho5 hsm5 hz5
          go_wp2
          go_ret
          exact ⟨_, rfl, by rw [HMV.out]; have := HO5.out.mono hs (Nat.le_refl _) (Nat.le_refl _); simpa using this, HB5.out⟩
        · have hck2 : ¬ (cap : Int) = (k : Int) := by omega
          have hck3 : ¬ k = cap := by omega
          have hdr := ints_dropM HRD4.out k hkr
          rw [Nat.zero_add] at hdr
          have HDR := Lib.hid hdr
          clear hdr
          go_wp2_with (at_builtin; refine wpList_appIs rfl _ _ rfl _ ((restP A i).take k ++ [x]) rfl HO4.out _ ((restP A i).drop k) rfl HDR.out HLN3.out hz44 ?_)
          intro v5 w5 ho5 hsm5 hz5 _
          have HO5 := Lib.hid ho5
          have HB5 := Lib.hid (HB4.out.trans ((hsm5.below (Nat.le_refl _) hz44).mono hs))
          clear ho5 hsm5 hz5
          go_wp2
          go_ret
          exact ⟨_, rfl, by rw [HMV.out]; have := HO5.out.mono hs (Nat.le_refl _) (Nat.le_refl _); simpa using this, HB5.out⟩
end Go.Proofs.Yteoikfddebbakaa
