/-
  Contracts of EndsOf, WeightedEnds, MostLate, CountLate and HeadsBound, in the reference and in the program.
-/
import Derived.Test.YtgbomnhidfejbaaJobA
import Derived.Test.YtgbomnhidfejbaaOrder
namespace Go.Proofs.Ytgbomnhidfejbaa
open Go.RowKit
set_option linter.unusedVariables false

theorem areJobs_iff {js : List JobD} : areJobs js = true ↔ 1 ≤ js.length ∧ js.length ≤ 12 ∧ ∀ j ∈ js, okJob j = true := by
  simp only [areJobs, Bool.and_eq_true, inB_iff, List.all_eq_true]
  constructor
  · rintro ⟨⟨h1, h2⟩, h3⟩; exact ⟨by omega, by omega, h3⟩
  · rintro ⟨h1, h2, h3⟩; exact ⟨⟨by omega, by omega⟩, h3⟩
def endsGo (js : List JobD) : List Int → Int → List Int → List Int
  | [], _, out => out
  | i :: r, e, out => endsGo js r (e + (js.getD i.toNat .zero).x0) (out.set i.toNat (e + (js.getD i.toNat .zero).x0))
def ends (js : List JobD) (zs : List Int) : List Int := endsGo js zs 0 (List.replicate js.length 0)
def jobOrder (js : List JobD) (zs : List Int) : Bool := areJobs js && isOrder js.length zs
def endsOf (js : List JobD) (zs : List Int) : List Int × Bool := if jobOrder js zs then (ends js zs, true) else ([], false)
set_option maxHeartbeats 400000 in
theorem isJobOrder_any {l h l' h' : Nat} (v u : Value) (js : List JobD) (zs : List Int) (w : World) (hv : Jobs w l h v js) (hu : Ints w l' h' u zs) (hh : h ≤ w.heap.size) (hh' : h' ≤ w.heap.size) (hz : js.length ≤ 1048576) (hz' : zs.length ≤ 1048576) :
    Calls Try.prog 63 #[v, u] w fun e w' => e = .returned (.bool (jobOrder js zs)) ∧ Below w.heap.size w w' := by
  have hz2 : js.length ≤ 17592186043904 := by omega
  obtain ⟨a, cap, rfl, hc1, hc2, hd⟩ := hv.out
  clear hd
  cases hJ : areJobs js
  all_goals
    go_enter Try.func63, Try.ntmps63
    go_wp2_with fail
    refine (implAreJobs_any w _ js hv hh hz).mono ?_
    rintro e w1 ⟨rfl, hb1⟩
    have hu1 := hu.below hb1 hh'
    go_wp2_with (first | (go_at_call 59; refine (size_any _ hz2 _).mono ?_; rintro e w2 ⟨rfl, rfl⟩) | (go_at_call 87; refine (isOrderOf_any _ _ _ _ hu1 hz').mono ?_; rintro e w2 ⟨rfl, rfl⟩))
    go_ret
    exact ⟨ret_bool (by simp [jobOrder, hJ]), hb1⟩
set_option maxHeartbeats 400000 in
theorem l06Valid_any {l h l' h' : Nat} (v u : Value) (js : List JobD) (zs : List Int) (w : World) (hv : Jobs w l h v js) (hu : Ints w l' h' u zs) (hh : h ≤ w.heap.size) (hh' : h' ≤ w.heap.size) (hz : js.length ≤ 1048576) (hz' : zs.length ≤ 1048576) :
    Calls Try.prog 61 #[v, u] w fun e w' => e = .returned (.bool (jobOrder js zs)) ∧ Below w.heap.size w w' := by
  obtain ⟨a, cap, rfl, hc1, hc2, hd⟩ := hv.out
  clear hd
  cases hJ : areJobs js
  · go_enter Try.func61, Try.ntmps61
    go_wp2_with (go_at_call 47; refine (l06Are_any _ js _ hv).mono ?_; rintro e w1 ⟨rfl, rfl⟩)
    go_ret
    exact ⟨ret_bool (by simp [jobOrder, hJ]), Below.refl _ _⟩
  · go_enter Try.func61, Try.ntmps61
    go_wp2_with fail
    refine (l06Are_any _ js _ hv).mono ?_
    rintro e w1 ⟨rfl, rfl⟩
    go_wp2_with fail
    refine (l04Tour_any _ _ zs _ hu hh' hz').mono ?_
    rintro e w2 ⟨rfl, hb⟩
    go_wp2
    go_ret
    exact ⟨ret_bool (by simp [jobOrder, hJ]), hb⟩
set_option maxHeartbeats 1600000 in
theorem implEnds_any {l h l' h' : Nat} (v u : Value) (js : List JobD) (zs : List Int) (w : World) (hv : Jobs w l h v js) (hu : Ints w l' h' u zs) (hh : h ≤ w.heap.size) (hh' : h' ≤ w.heap.size)
    (hJ : areJobs js = true) (hO : isOrder js.length zs = true) :
    Calls Try.prog 64 #[v, u] w fun e w' => ∃ r, e = .returned r ∧ OwnI w' w.heap.size w'.heap.size r (ends js zs) ∧ (ends js zs).length = js.length ∧ (∀ x ∈ ends js zs, 0 ≤ x ∧ x ≤ 12000) ∧ Below w.heap.size w w' := by
  obtain ⟨a, cap, rfl, hc1, hc2, hd⟩ := hv.out
  obtain ⟨a', cap', rfl, gc1, gc2, gd⟩ := hu.out
  obtain ⟨j1, j2, j3⟩ := areJobs_iff.1 hJ
  have HO := Lib.hid ((isOrder_iff _ _).1 hO)
  have HJ := Lib.hid j3
  have hlen : zs.length ≤ js.length := by have := HO.out.1; omega
  clear j3 hJ hO
  obtain ⟨i0, hi, hz0, hz1, hz2⟩ := info_parts info_i64
  have hml : js.length ≤ maxLen := by unfold maxLen; omega
  go_enter Try.func64, Try.ntmps64
  go_wp2_with (refine wpList_make_full _ rfl _ _ 30 rfl w.heap.size 2 i0 (.int .i64 0) 1 Try.underlying30 hi hz0 hz1 .i64 .i64 _ _ js.length rfl rfl rfl rfl ?c1 hml ?c2 ?_)
  case c1 => rw [hz2]; omega
  case c2 => exact Nat.le_refl _
  intro w1 hown hg
  have hrow0 := RowI.made hown
  have hb0 : Below w.heap.size w w1 := (Below.refl _ _).grown hg (Nat.le_refl _) (fun k hk => by cases hk)
  clear hown hg
  go_wp2_with fail
  go_loopw [6, 14] (fun q i wr => ∃ (k : Nat) (e : Int) (L : List Int), k ≤ zs.length ∧ i = .int .i64 k ∧ q = .int .i64 e ∧ 0 ≤ e ∧ e ≤ 1000 * (k : Int) ∧ Hid (endsGo js (zs.drop k) e L = ends js zs) ∧ Hid (∀ x ∈ L, 0 ≤ x ∧ x ≤ 12000) ∧ RowI wr w.heap.size w.heap.size js.length js.length L ∧ Below w.heap.size w wr) (fun _ i _ => zs.length - (intOf i).toNat)
  case atStart => exact ⟨0, 0, _, Nat.zero_le _, rfl, rfl, by omega, by omega, Lib.hid rfl, Lib.hid (fun x hx => by rw [List.eq_of_mem_replicate hx]; omega), hrow0, hb0⟩
  case round =>
    clear hrow0 hb0
    obtain ⟨k, e, L, hk, rfl, rfl, he0, he1, H, HL, hrow, hb⟩ := hrel
    by_cases hlt : k < zs.length
    · have HD := Lib.hid (drop_cons zs k hlt)
      rcases gd with rfl | ⟨b', off', rfl, gb1, gb2, gb3, gcell⟩
      · simp at hlt
      rcases hd with rfl | ⟨b, off, rfl, hb1, hb2, hb3, hcell⟩
      · simp at j1
      have hck := gcell k hlt
      rw [← hb.cell (p := ⟨b', off' + k, none⟩) (show b' < w.heap.size by omega)] at hck
      have hx := HO.out.2.1 zs[k] (List.getElem_mem _)
      obtain ⟨A, hA⟩ := Int.eq_ofNat_of_zero_le hx.1
      have hA2 : A < js.length := by omega
      have hck' : wr.cell? ⟨b', off' + k, none⟩ = some (.int .i64 (A : Int)) := by rw [hck, ← hA]; simp [hlt]
      have HA := Lib.hid hA
      obtain ⟨c0, _, _, _⟩ := hcell A hA2
      rw [← hb.cell (p := ⟨b, off + A * 4, none⟩) (show b < w.heap.size by omega)] at c0
      have hjb := okJob_bounds (HJ.out js[A] (List.getElem_mem _))
      have hj0 := hjb.1.1
      have hj1 := hjb.1.2
      clear hck hA hx hcell gcell hjb
      have hBA := hrow.cell hA2
      have hfA := hrow.frozen A
      have hAn : (0 : Int) ≤ (A : Int) := by omega
      go_wp2_with fail
      go_roundw
      case rel =>
        refine ⟨k + 1, e + js[A].x0, _, by omega, by go_num, rfl, by omega, by omega, Lib.hid ?_, Lib.hid ?_, hrow.stored A _, hb.setCell (Nat.le_refl _) _⟩
        · rw [← H.out, HD.out, endsGo, HA.out]; simp [hA2]
        · intro x hx
          rcases List.mem_or_eq_of_mem_set hx with hx | rfl
          · exact HL.out x hx
          · omega
      case measure => simp [intOf]; omega
    · go_wp2
      go_ret
      have hE : L = ends js zs := by rw [← H.out, drop_len _ _ (by omega), endsGo]
      have HLo := HL.out
      have hL := hrow.length
      rw [hE] at hrow HLo hL
      exact ⟨_, rfl, hrow.own (fun x hx => by have := HLo x hx; unfold I64; omega) (by omega) hrow.lt (Nat.le_refl _), hL, HLo, hb⟩
set_option maxHeartbeats 1600000 in
theorem l06Ends_any {l h l' h' : Nat} (v u : Value) (js : List JobD) (zs : List Int) (w : World) (hv : Jobs w l h v js) (hu : Ints w l' h' u zs) (hh : h ≤ w.heap.size) (hh' : h' ≤ w.heap.size)
    (hJ : areJobs js = true) (hO : isOrder js.length zs = true) :
    Calls Try.prog 62 #[v, u] w fun e w' => ∃ r, e = .returned r ∧ OwnI w' w.heap.size w'.heap.size r (ends js zs) ∧ (ends js zs).length = js.length ∧ (∀ x ∈ ends js zs, 0 ≤ x ∧ x ≤ 12000) ∧ Below w.heap.size w w' := by
  obtain ⟨a, cap, rfl, hc1, hc2, hd⟩ := hv.out
  obtain ⟨a', cap', rfl, gc1, gc2, gd⟩ := hu.out
  obtain ⟨j1, j2, j3⟩ := areJobs_iff.1 hJ
  have HO := Lib.hid ((isOrder_iff _ _).1 hO)
  have HJ := Lib.hid j3
  have hlen : zs.length ≤ js.length := by have := HO.out.1; omega
  clear j3 hJ hO
  obtain ⟨i0, hi, hz0, hz1, hz2⟩ := info_parts info_i64
  have hml : js.length ≤ maxLen := by unfold maxLen; omega
  go_enter Try.func62, Try.ntmps62
  go_wp2_with (refine wpList_make_full _ rfl _ _ 30 rfl w.heap.size 2 i0 (.int .i64 0) 1 Try.underlying30 hi hz0 hz1 .i64 .i64 _ _ js.length rfl rfl rfl rfl ?c1 hml ?c2 ?_)
  case c1 => rw [hz2]; omega
  case c2 => exact Nat.le_refl _
  intro w1 hown hg
  have hrow0 := RowI.made hown
  have hb0 : Below w.heap.size w w1 := (Below.refl _ _).grown hg (Nat.le_refl _) (fun k hk => by cases hk)
  clear hown hg
  go_wp2_with fail
  go_loopw [6, 7] (fun q i wr => ∃ (k : Nat) (e : Int) (L : List Int), k ≤ zs.length ∧ i = .int .i64 k ∧ q = .int .i64 e ∧ 0 ≤ e ∧ e ≤ 1000 * (k : Int) ∧ Hid (endsGo js (zs.drop k) e L = ends js zs) ∧ Hid (∀ x ∈ L, 0 ≤ x ∧ x ≤ 12000) ∧ RowI wr w.heap.size w.heap.size js.length js.length L ∧ Below w.heap.size w wr) (fun _ i _ => zs.length - (intOf i).toNat)
  case atStart => exact ⟨0, 0, _, Nat.zero_le _, rfl, rfl, by omega, by omega, Lib.hid rfl, Lib.hid (fun x hx => by rw [List.eq_of_mem_replicate hx]; omega), hrow0, hb0⟩
  case round =>
    clear hrow0 hb0
    obtain ⟨k, e, L, hk, rfl, rfl, he0, he1, H, HL, hrow, hb⟩ := hrel
    by_cases hlt : k < zs.length
    · have HD := Lib.hid (drop_cons zs k hlt)
      rcases gd with rfl | ⟨b', off', rfl, gb1, gb2, gb3, gcell⟩
      · simp at hlt
      rcases hd with rfl | ⟨b, off, rfl, hb1, hb2, hb3, hcell⟩
      · simp at j1
      have hck := gcell k hlt
      rw [← hb.cell (p := ⟨b', off' + k, none⟩) (show b' < w.heap.size by omega)] at hck
      have hx := HO.out.2.1 zs[k] (List.getElem_mem _)
      obtain ⟨A, hA⟩ := Int.eq_ofNat_of_zero_le hx.1
      have hA2 : A < js.length := by omega
      have hck' : wr.cell? ⟨b', off' + k, none⟩ = some (.int .i64 (A : Int)) := by rw [hck, ← hA]; simp [hlt]
      have HA := Lib.hid hA
      obtain ⟨c0, _, _, _⟩ := hcell A hA2
      rw [← hb.cell (p := ⟨b, off + A * 4, none⟩) (show b < w.heap.size by omega)] at c0
      have hjb := okJob_bounds (HJ.out js[A] (List.getElem_mem _))
      have hj0 := hjb.1.1
      have hj1 := hjb.1.2
      clear hck hA hx hcell gcell hjb
      have hBA := hrow.cell hA2
      have hfA := hrow.frozen A
      have hAn : (0 : Int) ≤ (A : Int) := by omega
      go_wp2_with fail
      go_roundw
      case rel =>
        refine ⟨k + 1, e + js[A].x0, _, by omega, by go_num, rfl, by omega, by omega, Lib.hid ?_, Lib.hid ?_, hrow.stored A _, hb.setCell (Nat.le_refl _) _⟩
        · rw [← H.out, HD.out, endsGo, HA.out]; simp [hA2]
        · intro x hx
          rcases List.mem_or_eq_of_mem_set hx with hx | rfl
          · exact HL.out x hx
          · omega
      case measure => simp [intOf]; omega
    · go_wp2
      go_ret
      have hE : L = ends js zs := by rw [← H.out, drop_len _ _ (by omega), endsGo]
      have HLo := HL.out
      have hL := hrow.length
      rw [hE] at hrow HLo hL
      exact ⟨_, rfl, hrow.own (fun x hx => by have := HLo x hx; unfold I64; omega) (by omega) hrow.lt (Nat.le_refl _), hL, HLo, hb⟩
set_option maxHeartbeats 400000 in
theorem implEndsOf_any (w : World) {l h l' h' : Nat} (v : Value) (js : List JobD) (u : Value) (zs : List Int) (hv : Jobs w l h v js) (hh : h ≤ w.heap.size) (hz : js.length ≤ 1048576) (hu : Ints w l' h' u zs) (hh' : h' ≤ w.heap.size) (hz' : zs.length ≤ 1048576) :
    Calls Try.prog 33 #[v, u] w fun e w' => ∃ r, e = .returned (.tuple #[r, .bool (endsOf js zs).2]) ∧ OwnI w' w.heap.size w'.heap.size r (endsOf js zs).1 ∧ Below w.heap.size w w' := by
  cases hO : jobOrder js zs
  · have HE := Lib.hid (show endsOf js zs = ([], false) by simp [endsOf, hO])
    go_enter Try.func33, Try.ntmps33
    go_wp2_with fail
    refine (isJobOrder_any _ _ js zs w hv hu hh hh' hz hz').mono ?_
    rintro e w1 ⟨rfl, hb1⟩
    go_wp2
    go_ret2
    rw [HE.out]
    exact ⟨_, rfl, OwnI.nil _ _ _ (Nat.le_refl _), hb1⟩
  · have HE := Lib.hid (show endsOf js zs = (ends js zs, true) by simp [endsOf, hO])
    have hO' := hO
    simp only [jobOrder, Bool.and_eq_true] at hO'
    have HJ := Lib.hid hO'
    clear hO'
    go_enter Try.func33, Try.ntmps33
    go_wp2_with fail
    refine (isJobOrder_any _ _ js zs w hv hu hh hh' hz hz').mono ?_
    rintro e w1 ⟨rfl, hb1⟩
    have hs1 := hb1.size
    go_wp2_with fail
    refine (implEnds_any _ _ js zs w1 (hv.below hb1 hh) (hu.below hb1 hh') (by omega) (by omega) HJ.out.1 HJ.out.2).mono ?_
    rintro e w2 ⟨r, rfl, hr, hl, hx, hb2⟩
    go_wp2
    go_ret2
    rw [HE.out]
    exact ⟨_, rfl, hr.mono hs1 (Nat.le_refl _) (Nat.le_refl _), hb1.trans (hb2.mono hs1)⟩
set_option maxHeartbeats 400000 in
theorem specEndsOf_any (w : World) {l h l' h' : Nat} (v : Value) (js : List JobD) (u : Value) (zs : List Int) (hv : Jobs w l h v js) (hh : h ≤ w.heap.size) (hz : js.length ≤ 1048576) (hu : Ints w l' h' u zs) (hh' : h' ≤ w.heap.size) (hz' : zs.length ≤ 1048576) :
    Calls Try.prog 32 #[v, u] w fun e w' => ∃ r, e = .returned (.tuple #[r, .bool (endsOf js zs).2]) ∧ OwnI w' w.heap.size w'.heap.size r (endsOf js zs).1 ∧ Below w.heap.size w w' := by
  cases hO : jobOrder js zs
  · have HE := Lib.hid (show endsOf js zs = ([], false) by simp [endsOf, hO])
    go_enter Try.func32, Try.ntmps32
    go_wp2_with fail
    refine (l06Valid_any _ _ js zs w hv hu hh hh' hz hz').mono ?_
    rintro e w1 ⟨rfl, hb1⟩
    go_wp2
    go_ret2
    rw [HE.out]
    exact ⟨_, rfl, OwnI.nil _ _ _ (Nat.le_refl _), hb1⟩
  · have HE := Lib.hid (show endsOf js zs = (ends js zs, true) by simp [endsOf, hO])
    have hO' := hO
    simp only [jobOrder, Bool.and_eq_true] at hO'
    have HJ := Lib.hid hO'
    clear hO'
    go_enter Try.func32, Try.ntmps32
    go_wp2_with fail
    refine (l06Valid_any _ _ js zs w hv hu hh hh' hz hz').mono ?_
    rintro e w1 ⟨rfl, hb1⟩
    have hs1 := hb1.size
    go_wp2_with fail
    refine (l06Ends_any _ _ js zs w1 (hv.below hb1 hh) (hu.below hb1 hh') (by omega) (by omega) HJ.out.1 HJ.out.2).mono ?_
    rintro e w2 ⟨r, rfl, hr, hl, hx, hb2⟩
    go_wp2
    go_ret2
    rw [HE.out]
    exact ⟨_, rfl, hr.mono hs1 (Nat.le_refl _) (Nat.le_refl _), hb1.trans (hb2.mono hs1)⟩
/-- the weighted sum -/
def wsum : List JobD → List Int → Int → Int
  | j :: js, e :: es, t => wsum js es (t + j.x2 * e)
  | _, _, t => t
def weightedEnds (js : List JobD) (zs : List Int) : Int × Bool := if jobOrder js zs then (wsum js (ends js zs) 0, true) else (0, false)
def lateCount : List JobD → List Int → Int → Int
  | j :: js, e :: es, t => lateCount js es (if j.x1 < e then t + 1 else t)
  | _, _, t => t
def countLate (js : List JobD) (zs : List Int) : Int × Bool := if jobOrder js zs then (lateCount js (ends js zs) 0, true) else (0, false)
def lateMax : List JobD → List Int → Int → Int
  | j :: js, e :: es, t => lateMax js es (max t (e - j.x1))
  | _, _, t => t
def mostLate (js : List JobD) (zs : List Int) : Int × Bool := if jobOrder js zs then (lateMax js (ends js zs) ((ends js zs).getD 0 0 - (js.getD 0 .zero).x1), true) else (0, false)
set_option maxHeartbeats 1600000 in
theorem implWeightedEnds_any (w : World) {l h l' h' : Nat} (v : Value) (js : List JobD) (u : Value) (zs : List Int) (hv : Jobs w l h v js) (hh : h ≤ w.heap.size) (hz : js.length ≤ 1048576) (hu : Ints w l' h' u zs) (hh' : h' ≤ w.heap.size) (hz' : zs.length ≤ 1048576) :
    Calls Try.prog 25 #[v, u] w fun e w' => e = .returned (.tuple #[.int .i64 (weightedEnds js zs).1, .bool (weightedEnds js zs).2]) ∧ Below w.heap.size w w' := by
  cases hO : jobOrder js zs
  · have HE := Lib.hid (show weightedEnds js zs = (0, false) by simp [weightedEnds, hO])
    go_enter Try.func25, Try.ntmps25
    go_wp2_with fail
    refine (isJobOrder_any _ _ js zs w hv hu hh hh' hz hz').mono ?_
    rintro e w1 ⟨rfl, hb1⟩
    go_wp2
    go_ret2
    exact ⟨ret_p HE.out, hb1⟩
  · have hO' := hO
    simp only [jobOrder, Bool.and_eq_true] at hO'
    have HJ := Lib.hid hO'
    obtain ⟨j1, j2, j3⟩ := areJobs_iff.1 hO'.1
    have HOK := Lib.hid j3
    clear hO' j3
    go_enter Try.func25, Try.ntmps25
    go_wp2_with fail
    refine (isJobOrder_any _ _ js zs w hv hu hh hh' hz hz').mono ?_
    rintro e w1 ⟨rfl, hb1⟩
    have hs1 := hb1.size
    go_wp2_with fail
    refine (implEnds_any _ _ js zs w1 (hv.below hb1 hh) (hu.below hb1 hh') (by omega) (by omega) HJ.out.1 HJ.out.2).mono ?_
    rintro e w2 ⟨r, rfl, hr, hl, hx, hb2⟩
    have hs2 := hb2.size
    have HE := Lib.hid (show weightedEnds js zs = (wsum js (ends js zs) 0, true) by simp [weightedEnds, hO])
    have hB : Below w.heap.size w w2 := hb1.trans (hb2.mono hs1)
    have hJ2 := hv.below hB hh
    have HX := Lib.hid hx
    have HLn := Lib.hid hl
    have hln : (ends js zs).length ≤ js.length := by omega
    have hln' : js.length ≤ (ends js zs).length := by omega
    have hR := hr.rd
    clear hx hl hO hr
    generalize ends js zs = E at *
    obtain ⟨a, cap, rfl, hc1, hc2, hd⟩ := hJ2.out
    obtain ⟨a', cap', rfl, gc1, gc2, gd⟩ := hR.out
    rcases hd with rfl | ⟨b, off, rfl, hb1', hb2', hb3', hcell⟩
    · simp at j1
    rcases gd with rfl | ⟨b', off', rfl, gb1, gb2, gb3, gcell⟩
    · simp only [List.length_nil] at hln'; omega
    have Hc := Lib.hid hcell
    have Gc := Lib.hid gcell
    clear hcell gcell

    go_wp2_with fail
    go_loopw [6, 17] (fun q i wr => ∃ (k : Nat) (t : Int), k ≤ js.length ∧ i = .int .i64 k ∧ q = .int .i64 t ∧ 0 ≤ t ∧ t ≤ 12000000 * (k : Int) ∧ Hid (wsum (js.drop k) (E.drop k) t = wsum js E 0) ∧ Drew w2 wr) (fun _ i _ => js.length - (intOf i).toNat)
    case atStart => exact ⟨0, _, Nat.zero_le _, rfl, rfl, by omega, by omega, Lib.hid rfl, Drew.refl _⟩
    case round =>
      obtain ⟨k, t, hk, rfl, rfl, ht1, ht2, H, hD⟩ := hrel
      have hcw := hD.cell
      by_cases hlt : k < js.length
      · have glt : k < E.length := by omega
        have HD := Lib.hid (drop_cons js k hlt)
        have GD := Lib.hid (drop_cons E k glt)
        have c1 := (Hc.out k hlt).2.2.1
        have d1 := Gc.out k glt
        have hjb := okJob_bounds (HOK.out js[k] (List.getElem_mem _))
        obtain ⟨⟨p0, p0'⟩, ⟨p1, p1'⟩, ⟨p2, p2'⟩, ⟨p3, p3'⟩⟩ := hjb
        obtain ⟨e0, e0'⟩ := HX.out E[k] (List.getElem_mem _)
        have hm0 : 0 ≤ js[k].x2 * E[k] := Int.mul_nonneg p2 e0
        have hm1 : js[k].x2 * E[k] ≤ 12000000 := by
          have := Int.mul_le_mul p2' e0' e0 (by omega)
          omega
        go_wp2_with fail
        all_goals
          go_roundw
          case rel => exact ⟨k + 1, _, by omega, by go_num, by first | rfl | go_num | (congr 1; omega), by omega, by omega, Lib.hid (by rw [← H.out, HD.out, GD.out]; simp only [wsum]), by first | exact hD.step _ | exact hD⟩
          case measure => simp [intOf]; omega
      · go_wp2
        go_ret2
        exact ⟨ret_p (by rw [HE.out, ← H.out, drop_len js _ (by omega), wsum]; simp), hB.trans (hD.below _)⟩
set_option maxHeartbeats 1600000 in
theorem implCountLate_any (w : World) {l h l' h' : Nat} (v : Value) (js : List JobD) (u : Value) (zs : List Int) (hv : Jobs w l h v js) (hh : h ≤ w.heap.size) (hz : js.length ≤ 1048576) (hu : Ints w l' h' u zs) (hh' : h' ≤ w.heap.size) (hz' : zs.length ≤ 1048576) :
    Calls Try.prog 27 #[v, u] w fun e w' => e = .returned (.tuple #[.int .i64 (countLate js zs).1, .bool (countLate js zs).2]) ∧ Below w.heap.size w w' := by
  cases hO : jobOrder js zs
  · have HE := Lib.hid (show countLate js zs = (0, false) by simp [countLate, hO])
    go_enter Try.func27, Try.ntmps27
    go_wp2_with fail
    refine (isJobOrder_any _ _ js zs w hv hu hh hh' hz hz').mono ?_
    rintro e w1 ⟨rfl, hb1⟩
    go_wp2
    go_ret2
    exact ⟨ret_p HE.out, hb1⟩
  · have hO' := hO
    simp only [jobOrder, Bool.and_eq_true] at hO'
    have HJ := Lib.hid hO'
    obtain ⟨j1, j2, j3⟩ := areJobs_iff.1 hO'.1
    have HOK := Lib.hid j3
    clear hO' j3
    go_enter Try.func27, Try.ntmps27
    go_wp2_with fail
    refine (isJobOrder_any _ _ js zs w hv hu hh hh' hz hz').mono ?_
    rintro e w1 ⟨rfl, hb1⟩
    have hs1 := hb1.size
    go_wp2_with fail
    refine (implEnds_any _ _ js zs w1 (hv.below hb1 hh) (hu.below hb1 hh') (by omega) (by omega) HJ.out.1 HJ.out.2).mono ?_
    rintro e w2 ⟨r, rfl, hr, hl, hx, hb2⟩
    have hs2 := hb2.size
    have HE := Lib.hid (show countLate js zs = (lateCount js (ends js zs) 0, true) by simp [countLate, hO])
    have hB : Below w.heap.size w w2 := hb1.trans (hb2.mono hs1)
    have hJ2 := hv.below hB hh
    have HX := Lib.hid hx
    have HLn := Lib.hid hl
    have hln : (ends js zs).length ≤ js.length := by omega
    have hln' : js.length ≤ (ends js zs).length := by omega
    have hR := hr.rd
    clear hx hl hO hr
    generalize ends js zs = E at *
    obtain ⟨a, cap, rfl, hc1, hc2, hd⟩ := hJ2.out
    obtain ⟨a', cap', rfl, gc1, gc2, gd⟩ := hR.out
    rcases hd with rfl | ⟨b, off, rfl, hb1', hb2', hb3', hcell⟩
    · simp at j1
    rcases gd with rfl | ⟨b', off', rfl, gb1, gb2, gb3, gcell⟩
    · simp only [List.length_nil] at hln'; omega
    have Hc := Lib.hid hcell
    have Gc := Lib.hid gcell
    clear hcell gcell

    go_wp2_with fail
    go_loopw [6, 17] (fun q i wr => ∃ (k : Nat) (t : Int), k ≤ js.length ∧ i = .int .i64 k ∧ q = .int .i64 t ∧ 0 ≤ t ∧ t ≤ (k : Int) ∧ Hid (lateCount (js.drop k) (E.drop k) t = lateCount js E 0) ∧ Drew w2 wr) (fun _ i _ => js.length - (intOf i).toNat)
    case atStart => exact ⟨0, _, Nat.zero_le _, rfl, rfl, by omega, by omega, Lib.hid rfl, Drew.refl _⟩
    case round =>
      obtain ⟨k, t, hk, rfl, rfl, ht1, ht2, H, hD⟩ := hrel
      have hcw := hD.cell
      by_cases hlt : k < js.length
      · have glt : k < E.length := by omega
        have HD := Lib.hid (drop_cons js k hlt)
        have GD := Lib.hid (drop_cons E k glt)
        have c1 := (Hc.out k hlt).2.1
        have d1 := Gc.out k glt
        have hjb := okJob_bounds (HOK.out js[k] (List.getElem_mem _))
        obtain ⟨⟨p0, p0'⟩, ⟨p1, p1'⟩, ⟨p2, p2'⟩, ⟨p3, p3'⟩⟩ := hjb
        obtain ⟨e0, e0'⟩ := HX.out E[k] (List.getElem_mem _)
        cases hq : decide (js[k].x1 < E[k])
        all_goals
          go_wp2_with fail
          go_roundw
          case rel => exact ⟨k + 1, _, by omega, by go_num, by first | rfl | go_num | (congr 1; omega), by omega, by omega, Lib.hid (by rw [← H.out, HD.out, GD.out]; simp only [lateCount]; simp at hq; first | rw [if_pos (by omega)] | rw [if_neg (by omega)]), by first | exact hD.step _ | exact hD⟩
          case measure => simp [intOf]; omega
      · go_wp2
        go_ret2
        exact ⟨ret_p (by rw [HE.out, ← H.out, drop_len js _ (by omega), lateCount]; simp), hB.trans (hD.below _)⟩
set_option maxHeartbeats 1600000 in
theorem implMostLate_any (w : World) {l h l' h' : Nat} (v : Value) (js : List JobD) (u : Value) (zs : List Int) (hv : Jobs w l h v js) (hh : h ≤ w.heap.size) (hz : js.length ≤ 1048576) (hu : Ints w l' h' u zs) (hh' : h' ≤ w.heap.size) (hz' : zs.length ≤ 1048576) :
    Calls Try.prog 29 #[v, u] w fun e w' => e = .returned (.tuple #[.int .i64 (mostLate js zs).1, .bool (mostLate js zs).2]) ∧ Below w.heap.size w w' := by
  cases hO : jobOrder js zs
  · have HE := Lib.hid (show mostLate js zs = (0, false) by simp [mostLate, hO])
    go_enter Try.func29, Try.ntmps29
    go_wp2_with fail
    refine (isJobOrder_any _ _ js zs w hv hu hh hh' hz hz').mono ?_
    rintro e w1 ⟨rfl, hb1⟩
    go_wp2
    go_ret2
    exact ⟨ret_p HE.out, hb1⟩
  · have hO' := hO
    simp only [jobOrder, Bool.and_eq_true] at hO'
    have HJ := Lib.hid hO'
    obtain ⟨j1, j2, j3⟩ := areJobs_iff.1 hO'.1
    have HOK := Lib.hid j3
    clear hO' j3
    go_enter Try.func29, Try.ntmps29
    go_wp2_with fail
    refine (isJobOrder_any _ _ js zs w hv hu hh hh' hz hz').mono ?_
    rintro e w1 ⟨rfl, hb1⟩
    have hs1 := hb1.size
    go_wp2_with fail
    refine (implEnds_any _ _ js zs w1 (hv.below hb1 hh) (hu.below hb1 hh') (by omega) (by omega) HJ.out.1 HJ.out.2).mono ?_
    rintro e w2 ⟨r, rfl, hr, hl, hx, hb2⟩
    have hs2 := hb2.size
    have HE := Lib.hid (show mostLate js zs = (lateMax js (ends js zs) ((ends js zs).getD 0 0 - (js.getD 0 .zero).x1), true) by simp [mostLate, hO])
    have hB : Below w.heap.size w w2 := hb1.trans (hb2.mono hs1)
    have hJ2 := hv.below hB hh
    have HX := Lib.hid hx
    have HLn := Lib.hid hl
    have hln : (ends js zs).length ≤ js.length := by omega
    have hln' : js.length ≤ (ends js zs).length := by omega
    have hR := hr.rd
    clear hx hl hO hr
    generalize ends js zs = E at *
    obtain ⟨a, cap, rfl, hc1, hc2, hd⟩ := hJ2.out
    obtain ⟨a', cap', rfl, gc1, gc2, gd⟩ := hR.out
    rcases hd with rfl | ⟨b, off, rfl, hb1', hb2', hb3', hcell⟩
    · simp at j1
    rcases gd with rfl | ⟨b', off', rfl, gb1, gb2, gb3, gcell⟩
    · simp only [List.length_nil] at hln'; omega
    have Hc := Lib.hid hcell
    have Gc := Lib.hid gcell
    clear hcell gcell
    have hg0 : 0 < E.length := by omega
    have hj0 : 0 < js.length := by omega
    obtain ⟨ca0, ca1, ca2, ca3⟩ := Hc.out 0 hj0
    have da0 : w2.cell? ⟨b', off', none⟩ = some (.int .i64 (E.getD 0 0)) := Gc.out 0 hg0
    have ca1' : w2.cell? ⟨b, off + 1, none⟩ = some (.int .i64 js[0].x1) := by simpa using ca1
    obtain ⟨⟨z0, z0'⟩, ⟨z1, z1'⟩, ⟨z2, z2'⟩, ⟨z3, z3'⟩⟩ := okJob_bounds (HOK.out js[0] (List.getElem_mem _))
    obtain ⟨y0, y0'⟩ := HX.out E[0] (List.getElem_mem _)
    have hw0 : IntKind.i64.wrap (E[0] - js[0].x1) = E[0] - js[0].x1 := IntWalk.i64_in _ (by omega)
    have hi1 : (0 : Int) < (E.length : Int) := by omega
    have hi2 : (0 : Int) < (js.length : Int) := by omega
    have HI := Lib.hid (show E.getD 0 0 - (js.getD 0 .zero).x1 = E[0] - js[0].x1 by simp [hg0, hj0])
    rw [HI.out] at HE
    have HS := Lib.hid (show lateMax (js.drop 1) (E.drop 1) (E[0] - js[0].x1) = lateMax js E (E[0] - js[0].x1) by
      cases js with
      | nil => simp at hj0
      | cons a r => cases E with
        | nil => simp at hg0
        | cons b s => simp [lateMax])
    clear ca0 ca1 ca2 ca3 z0 z0' z2 z2' z3 z3'
    go_wp2_with fail
    go_quiet (fail)
    clear hw0 hi1 hi2
    generalize hT0 : E[0] - js[0].x1 = T0 at *
    have hT1 : -100000 ≤ T0 := by omega
    have hT2 : T0 ≤ 12000 := by omega
    clear hT0
    go_wp2_with fail
    go_loopw [7, 27] (fun q i wr => ∃ (k : Nat) (t : Int), k ≤ js.length ∧ i = .int .i64 k ∧ q = .int .i64 t ∧ -100000 ≤ t ∧ t ≤ 12000 ∧ Hid (lateMax (js.drop k) (E.drop k) t = lateMax js E T0) ∧ Drew w2 wr) (fun _ i _ => js.length - (intOf i).toNat)
    case atStart => exact ⟨0, _, by omega, rfl, rfl, by omega, by omega, Lib.hid rfl, Drew.one _ _⟩
    case round =>
      obtain ⟨k, t, hk, rfl, rfl, ht1, ht2, H, hD⟩ := hrel
      have hcw := hD.cell
      by_cases hlt : k < js.length
      · have glt : k < E.length := by omega
        have HD := Lib.hid (drop_cons js k hlt)
        have GD := Lib.hid (drop_cons E k glt)
        have c1 := (Hc.out k hlt).2.1
        have d1 := Gc.out k glt
        have hjb := okJob_bounds (HOK.out js[k] (List.getElem_mem _))
        obtain ⟨⟨p0, p0'⟩, ⟨p1, p1'⟩, ⟨p2, p2'⟩, ⟨p3, p3'⟩⟩ := hjb
        obtain ⟨e0, e0'⟩ := HX.out E[k] (List.getElem_mem _)
        have hmx : -100000 ≤ max t (E[k] - js[k].x1) ∧ max t (E[k] - js[k].x1) ≤ 12000 := by omega
        go_wp2_with fail
        all_goals
          go_roundw
          case rel => exact ⟨k + 1, _, by omega, by go_num, by first | rfl | go_num | (congr 1; omega), by omega, by omega, Lib.hid (by rw [← H.out, HD.out, GD.out]; simp only [lateMax]; congr 1; first | omega | (split <;> omega)), by first | exact hD.step _ | exact hD⟩
          case measure => simp [intOf]; omega
      · go_wp2
        go_ret2
        exact ⟨ret_p (by rw [HE.out, ← H.out, drop_len js _ (by omega), lateMax]; simp), hB.trans (hD.below _)⟩
set_option maxHeartbeats 1600000 in
theorem specWeightedEnds_any (w : World) {l h l' h' : Nat} (v : Value) (js : List JobD) (u : Value) (zs : List Int) (hv : Jobs w l h v js) (hh : h ≤ w.heap.size) (hz : js.length ≤ 1048576) (hu : Ints w l' h' u zs) (hh' : h' ≤ w.heap.size) (hz' : zs.length ≤ 1048576) :
    Calls Try.prog 24 #[v, u] w fun e w' => e = .returned (.tuple #[.int .i64 (weightedEnds js zs).1, .bool (weightedEnds js zs).2]) ∧ Below w.heap.size w w' := by
  cases hO : jobOrder js zs
  · have HE := Lib.hid (show weightedEnds js zs = (0, false) by simp [weightedEnds, hO])
    go_enter Try.func24, Try.ntmps24
    go_wp2_with fail
    refine (l06Valid_any _ _ js zs w hv hu hh hh' hz hz').mono ?_
    rintro e w1 ⟨rfl, hb1⟩
    go_wp2
    go_ret2
    exact ⟨ret_p HE.out, hb1⟩
  · have hO' := hO
    simp only [jobOrder, Bool.and_eq_true] at hO'
    have HJ := Lib.hid hO'
    obtain ⟨j1, j2, j3⟩ := areJobs_iff.1 hO'.1
    have HOK := Lib.hid j3
    clear hO' j3
    go_enter Try.func24, Try.ntmps24
    go_wp2_with fail
    refine (l06Valid_any _ _ js zs w hv hu hh hh' hz hz').mono ?_
    rintro e w1 ⟨rfl, hb1⟩
    have hs1 := hb1.size
    go_wp2_with fail
    refine (l06Ends_any _ _ js zs w1 (hv.below hb1 hh) (hu.below hb1 hh') (by omega) (by omega) HJ.out.1 HJ.out.2).mono ?_
    rintro e w2 ⟨r, rfl, hr, hl, hx, hb2⟩
    have hs2 := hb2.size
    have HE := Lib.hid (show weightedEnds js zs = (wsum js (ends js zs) 0, true) by simp [weightedEnds, hO])
    have hB : Below w.heap.size w w2 := hb1.trans (hb2.mono hs1)
    have hJ2 := hv.below hB hh
    have HX := Lib.hid hx
    have HLn := Lib.hid hl
    have hln : (ends js zs).length ≤ js.length := by omega
    have hln' : js.length ≤ (ends js zs).length := by omega
    have hR := hr.rd
    clear hx hl hO hr
    generalize ends js zs = E at *
    obtain ⟨a, cap, rfl, hc1, hc2, hd⟩ := hJ2.out
    obtain ⟨a', cap', rfl, gc1, gc2, gd⟩ := hR.out
    rcases hd with rfl | ⟨b, off, rfl, hb1', hb2', hb3', hcell⟩
    · simp at j1
    rcases gd with rfl | ⟨b', off', rfl, gb1, gb2, gb3, gcell⟩
    · simp only [List.length_nil] at hln'; omega
    have Hc := Lib.hid hcell
    have Gc := Lib.hid gcell
    clear hcell gcell

    go_wp2_with fail
    go_loopw [7, 8] (fun q i wr => ∃ (k : Nat) (t : Int), k ≤ js.length ∧ i = .int .i64 k ∧ q = .int .i64 t ∧ 0 ≤ t ∧ t ≤ 12000000 * (k : Int) ∧ Hid (wsum (js.drop k) (E.drop k) t = wsum js E 0) ∧ Drew w2 wr) (fun _ i _ => js.length - (intOf i).toNat)
    case atStart => exact ⟨0, _, Nat.zero_le _, rfl, rfl, by omega, by omega, Lib.hid rfl, Drew.refl _⟩
    case round =>
      obtain ⟨k, t, hk, rfl, rfl, ht1, ht2, H, hD⟩ := hrel
      have hcw := hD.cell
      by_cases hlt : k < js.length
      · have glt : k < E.length := by omega
        have HD := Lib.hid (drop_cons js k hlt)
        have GD := Lib.hid (drop_cons E k glt)
        have c1 := (Hc.out k hlt).2.2.1
        have d1 := Gc.out k glt
        have hjb := okJob_bounds (HOK.out js[k] (List.getElem_mem _))
        obtain ⟨⟨p0, p0'⟩, ⟨p1, p1'⟩, ⟨p2, p2'⟩, ⟨p3, p3'⟩⟩ := hjb
        obtain ⟨e0, e0'⟩ := HX.out E[k] (List.getElem_mem _)
        have hm0 : 0 ≤ js[k].x2 * E[k] := Int.mul_nonneg p2 e0
        have hm1 : js[k].x2 * E[k] ≤ 12000000 := by
          have := Int.mul_le_mul p2' e0' e0 (by omega)
          omega
        have hkn : (0 : Int) ≤ (k : Int) := by omega
        have hkl : (k : Int) < (js.length : Int) := by omega
        have hkl' : (k : Int) < (E.length : Int) := by omega
        have hw1 : IntKind.i64.wrap (js[k].x2 * E[k]) = js[k].x2 * E[k] := IntWalk.i64_in _ (by omega)
        have hw2 : IntKind.i64.wrap (t + js[k].x2 * E[k]) = t + js[k].x2 * E[k] := IntWalk.i64_in _ (by omega)
        go_wp2_with fail
        go_quiet (fail)
        clear hw1 hw2
        go_wp2
        all_goals
          go_roundw
          case rel => exact ⟨k + 1, _, by omega, by go_num, by first | rfl | go_num | (congr 1; omega), by omega, by omega, Lib.hid (by rw [← H.out, HD.out, GD.out]; simp only [wsum]), by first | exact hD.step _ | exact hD⟩
          case measure => simp [intOf]; omega
      · go_wp2
        go_ret2
        exact ⟨ret_p (by rw [HE.out, ← H.out, drop_len js _ (by omega), wsum]; simp), hB.trans (hD.below _)⟩
set_option maxHeartbeats 1600000 in
theorem specCountLate_any (w : World) {l h l' h' : Nat} (v : Value) (js : List JobD) (u : Value) (zs : List Int) (hv : Jobs w l h v js) (hh : h ≤ w.heap.size) (hz : js.length ≤ 1048576) (hu : Ints w l' h' u zs) (hh' : h' ≤ w.heap.size) (hz' : zs.length ≤ 1048576) :
    Calls Try.prog 26 #[v, u] w fun e w' => e = .returned (.tuple #[.int .i64 (countLate js zs).1, .bool (countLate js zs).2]) ∧ Below w.heap.size w w' := by
  cases hO : jobOrder js zs
  · have HE := Lib.hid (show countLate js zs = (0, false) by simp [countLate, hO])
    go_enter Try.func26, Try.ntmps26
    go_wp2_with fail
    refine (l06Valid_any _ _ js zs w hv hu hh hh' hz hz').mono ?_
    rintro e w1 ⟨rfl, hb1⟩
    go_wp2
    go_ret2
    exact ⟨ret_p HE.out, hb1⟩
  · have hO' := hO
    simp only [jobOrder, Bool.and_eq_true] at hO'
    have HJ := Lib.hid hO'
    obtain ⟨j1, j2, j3⟩ := areJobs_iff.1 hO'.1
    have HOK := Lib.hid j3
    clear hO' j3
    go_enter Try.func26, Try.ntmps26
    go_wp2_with fail
    refine (l06Valid_any _ _ js zs w hv hu hh hh' hz hz').mono ?_
    rintro e w1 ⟨rfl, hb1⟩
    have hs1 := hb1.size
    go_wp2_with fail
    refine (l06Ends_any _ _ js zs w1 (hv.below hb1 hh) (hu.below hb1 hh') (by omega) (by omega) HJ.out.1 HJ.out.2).mono ?_
    rintro e w2 ⟨r, rfl, hr, hl, hx, hb2⟩
    have hs2 := hb2.size
    have HE := Lib.hid (show countLate js zs = (lateCount js (ends js zs) 0, true) by simp [countLate, hO])
    have hB : Below w.heap.size w w2 := hb1.trans (hb2.mono hs1)
    have hJ2 := hv.below hB hh
    have HX := Lib.hid hx
    have HLn := Lib.hid hl
    have hln : (ends js zs).length ≤ js.length := by omega
    have hln' : js.length ≤ (ends js zs).length := by omega
    have hR := hr.rd
    clear hx hl hO hr
    generalize ends js zs = E at *
    obtain ⟨a, cap, rfl, hc1, hc2, hd⟩ := hJ2.out
    obtain ⟨a', cap', rfl, gc1, gc2, gd⟩ := hR.out
    rcases hd with rfl | ⟨b, off, rfl, hb1', hb2', hb3', hcell⟩
    · simp at j1
    rcases gd with rfl | ⟨b', off', rfl, gb1, gb2, gb3, gcell⟩
    · simp only [List.length_nil] at hln'; omega
    have Hc := Lib.hid hcell
    have Gc := Lib.hid gcell
    clear hcell gcell

    go_wp2_with fail
    go_loopw [7, 8] (fun q i wr => ∃ (k : Nat) (t : Int), k ≤ js.length ∧ i = .int .i64 k ∧ q = .int .i64 t ∧ 0 ≤ t ∧ t ≤ (k : Int) ∧ Hid (lateCount (js.drop k) (E.drop k) t = lateCount js E 0) ∧ Drew w2 wr) (fun _ i _ => js.length - (intOf i).toNat)
    case atStart => exact ⟨0, _, Nat.zero_le _, rfl, rfl, by omega, by omega, Lib.hid rfl, Drew.refl _⟩
    case round =>
      obtain ⟨k, t, hk, rfl, rfl, ht1, ht2, H, hD⟩ := hrel
      have hcw := hD.cell
      by_cases hlt : k < js.length
      · have glt : k < E.length := by omega
        have HD := Lib.hid (drop_cons js k hlt)
        have GD := Lib.hid (drop_cons E k glt)
        have c1 := (Hc.out k hlt).2.1
        have d1 := Gc.out k glt
        have hjb := okJob_bounds (HOK.out js[k] (List.getElem_mem _))
        obtain ⟨⟨p0, p0'⟩, ⟨p1, p1'⟩, ⟨p2, p2'⟩, ⟨p3, p3'⟩⟩ := hjb
        obtain ⟨e0, e0'⟩ := HX.out E[k] (List.getElem_mem _)
        have hkn : (0 : Int) ≤ (k : Int) := by omega
        have hkl : (k : Int) < (js.length : Int) := by omega
        have hkl' : (k : Int) < (E.length : Int) := by omega
        cases hq : decide (js[k].x1 < E[k])
        all_goals
          go_wp2_with fail
          go_quiet (fail)
          go_wp2
          go_roundw
          case rel => exact ⟨k + 1, _, by omega, by go_num, by first | rfl | go_num | (congr 1; omega), by omega, by omega, Lib.hid (by rw [← H.out, HD.out, GD.out]; simp only [lateCount]; simp at hq; first | rw [if_pos (by omega)] | rw [if_neg (by omega)]), by first | exact hD.step _ | exact hD⟩
          case measure => simp [intOf]; omega
      · go_wp2
        go_ret2
        exact ⟨ret_p (by rw [HE.out, ← H.out, drop_len js _ (by omega), lateCount]; simp), hB.trans (hD.below _)⟩
set_option maxHeartbeats 1600000 in
theorem specMostLate_any (w : World) {l h l' h' : Nat} (v : Value) (js : List JobD) (u : Value) (zs : List Int) (hv : Jobs w l h v js) (hh : h ≤ w.heap.size) (hz : js.length ≤ 1048576) (hu : Ints w l' h' u zs) (hh' : h' ≤ w.heap.size) (hz' : zs.length ≤ 1048576) :
    Calls Try.prog 28 #[v, u] w fun e w' => e = .returned (.tuple #[.int .i64 (mostLate js zs).1, .bool (mostLate js zs).2]) ∧ Below w.heap.size w w' := by
  cases hO : jobOrder js zs
  · have HE := Lib.hid (show mostLate js zs = (0, false) by simp [mostLate, hO])
    go_enter Try.func28, Try.ntmps28
    go_wp2_with fail
    refine (l06Valid_any _ _ js zs w hv hu hh hh' hz hz').mono ?_
    rintro e w1 ⟨rfl, hb1⟩
    go_wp2
    go_ret2
    exact ⟨ret_p HE.out, hb1⟩
  · have hO' := hO
    simp only [jobOrder, Bool.and_eq_true] at hO'
    have HJ := Lib.hid hO'
    obtain ⟨j1, j2, j3⟩ := areJobs_iff.1 hO'.1
    have HOK := Lib.hid j3
    clear hO' j3
    go_enter Try.func28, Try.ntmps28
    go_wp2_with fail
    refine (l06Valid_any _ _ js zs w hv hu hh hh' hz hz').mono ?_
    rintro e w1 ⟨rfl, hb1⟩
    have hs1 := hb1.size
    go_wp2_with fail
    refine (l06Ends_any _ _ js zs w1 (hv.below hb1 hh) (hu.below hb1 hh') (by omega) (by omega) HJ.out.1 HJ.out.2).mono ?_
    rintro e w2 ⟨r, rfl, hr, hl, hx, hb2⟩
    have hs2 := hb2.size
    have HE := Lib.hid (show mostLate js zs = (lateMax js (ends js zs) ((ends js zs).getD 0 0 - (js.getD 0 .zero).x1), true) by simp [mostLate, hO])
    have hB : Below w.heap.size w w2 := hb1.trans (hb2.mono hs1)
    have hJ2 := hv.below hB hh
    have HX := Lib.hid hx
    have HLn := Lib.hid hl
    have hln : (ends js zs).length ≤ js.length := by omega
    have hln' : js.length ≤ (ends js zs).length := by omega
    have hR := hr.rd
    clear hx hl hO hr
    generalize ends js zs = E at *
    obtain ⟨a, cap, rfl, hc1, hc2, hd⟩ := hJ2.out
    obtain ⟨a', cap', rfl, gc1, gc2, gd⟩ := hR.out
    rcases hd with rfl | ⟨b, off, rfl, hb1', hb2', hb3', hcell⟩
    · simp at j1
    rcases gd with rfl | ⟨b', off', rfl, gb1, gb2, gb3, gcell⟩
    · simp only [List.length_nil] at hln'; omega
    have Hc := Lib.hid hcell
    have Gc := Lib.hid gcell
    clear hcell gcell
    have hg0 : 0 < E.length := by omega
    have hj0 : 0 < js.length := by omega
    obtain ⟨ca0, ca1, ca2, ca3⟩ := Hc.out 0 hj0
    have da0 : w2.cell? ⟨b', off', none⟩ = some (.int .i64 (E.getD 0 0)) := Gc.out 0 hg0
    have ca1' : w2.cell? ⟨b, off + 1, none⟩ = some (.int .i64 js[0].x1) := by simpa using ca1
    obtain ⟨⟨z0, z0'⟩, ⟨z1, z1'⟩, ⟨z2, z2'⟩, ⟨z3, z3'⟩⟩ := okJob_bounds (HOK.out js[0] (List.getElem_mem _))
    obtain ⟨y0, y0'⟩ := HX.out E[0] (List.getElem_mem _)
    have hw0 : IntKind.i64.wrap (E[0] - js[0].x1) = E[0] - js[0].x1 := IntWalk.i64_in _ (by omega)
    have hi1 : (0 : Int) < (E.length : Int) := by omega
    have hi2 : (0 : Int) < (js.length : Int) := by omega
    have HI := Lib.hid (show E.getD 0 0 - (js.getD 0 .zero).x1 = E[0] - js[0].x1 by simp [hg0, hj0])
    rw [HI.out] at HE
    have HS := Lib.hid (show lateMax (js.drop 1) (E.drop 1) (E[0] - js[0].x1) = lateMax js E (E[0] - js[0].x1) by
      cases js with
      | nil => simp at hj0
      | cons a r => cases E with
        | nil => simp at hg0
        | cons b s => simp [lateMax])
    clear ca0 ca1 ca2 ca3 z0 z0' z2 z2' z3 z3'
    go_wp2_with fail
    go_quiet (fail)
    clear hw0 hi1 hi2
    generalize hT0 : E[0] - js[0].x1 = T0 at *
    have hT1 : -100000 ≤ T0 := by omega
    have hT2 : T0 ≤ 12000 := by omega
    clear hT0
    go_wp2_with fail
    go_loopw [7, 8] (fun q i wr => ∃ (k : Nat) (t : Int), k ≤ js.length ∧ i = .int .i64 k ∧ q = .int .i64 t ∧ -100000 ≤ t ∧ t ≤ 12000 ∧ Hid (lateMax (js.drop k) (E.drop k) t = lateMax js E T0) ∧ Drew w2 wr) (fun _ i _ => js.length - (intOf i).toNat)
    case atStart => exact ⟨1, _, by omega, rfl, rfl, by omega, by omega, Lib.hid HS.out, Drew.one _ _⟩
    case round =>
      obtain ⟨k, t, hk, rfl, rfl, ht1, ht2, H, hD⟩ := hrel
      have hcw := hD.cell
      by_cases hlt : k < js.length
      · have glt : k < E.length := by omega
        have HD := Lib.hid (drop_cons js k hlt)
        have GD := Lib.hid (drop_cons E k glt)
        have c1 := (Hc.out k hlt).2.1
        have d1 := Gc.out k glt
        have hjb := okJob_bounds (HOK.out js[k] (List.getElem_mem _))
        obtain ⟨⟨p0, p0'⟩, ⟨p1, p1'⟩, ⟨p2, p2'⟩, ⟨p3, p3'⟩⟩ := hjb
        obtain ⟨e0, e0'⟩ := HX.out E[k] (List.getElem_mem _)
        have hkn : (0 : Int) ≤ (k : Int) := by omega
        have hkl : (k : Int) < (js.length : Int) := by omega
        have hkl' : (k : Int) < (E.length : Int) := by omega
        have hw1 : IntKind.i64.wrap (E[k] - js[k].x1) = E[k] - js[k].x1 := IntWalk.i64_in _ (by omega)
        have hmx : -100000 ≤ max t (E[k] - js[k].x1) ∧ max t (E[k] - js[k].x1) ≤ 12000 := by omega
        go_wp2_with fail
        go_quiet ((go_at_call 48; exact quiet_same (l00Max_any _ _ _)))
        clear hw1
        go_wp2
        all_goals
          go_roundw
          case rel => exact ⟨k + 1, _, by omega, by go_num, by first | rfl | go_num | (congr 1; omega), by omega, by omega, Lib.hid (by rw [← H.out, HD.out, GD.out]; simp only [lateMax]), by first | exact hD.step _ | exact hD⟩
          case measure => simp [intOf]; omega
      · go_wp2
        go_ret2
        exact ⟨ret_p (by rw [HE.out, ← H.out, drop_len js _ (by omega), lateMax]; simp), hB.trans (hD.below _)⟩
end Go.Proofs.Ytgbomnhidfejbaa
