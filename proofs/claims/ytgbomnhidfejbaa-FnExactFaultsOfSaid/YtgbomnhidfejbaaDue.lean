/-
  DueOrder: contracts in the reference and in the program.
-/
import Derived.Test.YtgbomnhidfejbaaSort
import Derived.Test.YtgbomnhidfejbaaJobA
import Derived.OneCell
namespace Go.Proofs.Ytgbomnhidfejbaa
open Go.RowKit
set_option linter.unusedVariables false

/-- a block of one cell -/
theorem one_new (w : World) (t : TypeId) (v : Value) : (w.alloc (.cells #[v] t)).cell? ⟨w.heap.size, 0, none⟩ = some v := by
  rw [World.cell?_alloc_at _ _ _ _ rfl]; rfl
theorem below_newW (w : World) (o : Obj) : Below w.heap.size w (w.alloc o) := (Below.refl _ _).alloc (Nat.le_refl _) o
def dues (js : List JobD) : List Int := js.map JobD.x1
theorem dues_getD (js : List JobD) (i : Nat) (hi : i < js.length) : (dues js).getD i 0 = js[i].x1 := by simp [dues, List.getD, hi]
theorem dues_snoc (js : List JobD) (k : Nat) (hk : k < js.length) : dues (js.take (k + 1)) = dues (js.take k) ++ [js[k].x1] := by
  rw [List.take_succ_eq_append_getElem hk]; simp only [dues, List.map_append, List.map_cons, List.map_nil]
def dueOrderL (js : List JobD) : List Int := ordTo (keyLt (dues js)) js.length
def dueOrder (js : List JobD) : List Int × Bool := if areJobs js then (dueOrderL js, true) else ([], false)
def keyCmp (keys : List Int) (a b : Int) : Int := cmpI (keys.getD a.toNat 0) (keys.getD b.toNat 0)
theorem keyCmp_lt (keys : List Int) : ltOf (keyCmp keys) = keyLt keys := by
  funext x y; unfold ltOf keyCmp keyLt; exact cmpI_lt _ _
theorem areJobs_len {js : List JobD} (h : areJobs js = true) : 0 < js.length ∧ js.length ≤ 12 := by
  simp only [areJobs, Bool.and_eq_true] at h
  have := inB_true h.1
  omega
set_option maxHeartbeats 1600000 in
set_option maxRecDepth 100000 in
theorem l06Due_any {l h : Nat} (v : Value) (js : List JobD) (w : World) (hv : Jobs w l h v js) (hh : h ≤ w.heap.size) (hz : js.length ≤ 1048576) :
    Calls Try.prog 80 #[v] w fun e w' => ∃ u, e = .returned u ∧ OwnI w' w.heap.size w'.heap.size u (dueOrderL js) ∧ Below w.heap.size w w' := by
  obtain ⟨a, cap, rfl, hc1, hc2, hd⟩ := hv.out
  have HRNG := Lib.hid hv.rng
  have h0 := emptySlice w
  clear hv
  go_enter Try.func80, Try.ntmps80
  go_wp2_with fail
  go_loopw [3, 4] (fun ov i wr => ∃ k : Nat, k ≤ js.length ∧ i = .int .i64 k ∧ OwnI wr w.heap.size wr.heap.size ov (dues (js.take k)) ∧ Below w.heap.size w wr) (fun _ i _ => js.length - (intOf i).toNat)
  case atStart => exact ⟨0, Nat.zero_le _, rfl, by simpa [dues] using h0, below_newW _ _⟩
  case round =>
    clear h0
    obtain ⟨k, hk, rfl, ho, hb⟩ := hrel
    have hs := hb.size
    have HO := Lib.hid ho
    have hol : (dues (js.take k)).length ≤ k := by simp [dues]; omega
    clear ho
    by_cases hlt : k < js.length
    · have HS := Lib.hid (dues_snoc js k hlt)
      rcases hd with rfl | ⟨b, off, rfl, hb1, hb2, hb3, hcell⟩
      · simp at hlt
      obtain ⟨_, c1, _, _⟩ := hcell k hlt
      rw [← hb.cell (p := ⟨b, off + k * 4 + 1, none⟩) (show b < w.heap.size by omega)] at c1
      have hrg := (HRNG.out js[k] (List.getElem_mem _)).2.1
      have HRG := Lib.hid hrg
      clear hcell hrg
      go_wp2_with (at_builtin; refine wpList_app1 rfl _ _ rfl _ (dues (js.take k)) rfl js[k].x1 _ HO.out rfl HRG.out (by omega) hs ?_)
      intro v2 w3 ho2 hsm hz3 _
      have HO2 : Hid (OwnI w3 w.heap.size w3.heap.size v2 (dues (js.take (k + 1)))) := by rw [Hid, HS.out]; exact ho2
      clear ho2
      go_wp2
      go_roundw
      case rel => exact ⟨k + 1, by omega, by go_num, HO2.out, hb.trans (hsm.below (Nat.le_refl _) hs)⟩
      case measure => simp [intOf]; omega
    · obtain rfl : k = js.length := by omega
      rw [List.take_length] at HO
      have hdl : (dues js).length = js.length := by simp [dues]
      have HDL := Lib.hid hdl
      have HOD := Lib.hid (l06Order_any _ (dues js) _ HO.out.rd (Nat.le_refl _) (by omega))
      clear hdl
      go_wp2_with fail
      refine HOD.out.mono ?_
      rintro e w2 ⟨u, rfl, ho2, hb2⟩
      rw [HDL.out] at ho2
      have HO2 := Lib.hid ho2
      clear ho2
      go_wp2
      go_ret
      exact ⟨_, rfl, HO2.out.mono hs (Nat.le_refl _) (Nat.le_refl _), hb.trans (hb2.mono hs)⟩
set_option maxHeartbeats 800000 in
set_option maxRecDepth 100000 in
theorem specDueOrder_any (w : World) {l h : Nat} (v : Value) (js : List JobD) (hv : Jobs w l h v js) (hh : h ≤ w.heap.size) (hz : js.length ≤ 1048576) :
    Calls Try.prog 43 #[v] w fun e w' => ∃ r, e = .returned (.tuple #[r, .bool (dueOrder js).2]) ∧ OwnI w' w.heap.size w'.heap.size r (dueOrder js).1 ∧ Below w.heap.size w w' := by
  cases hj : areJobs js
  · have HE := Lib.hid (show dueOrder js = ([], false) by simp [dueOrder, hj])
    go_enter Try.func43, Try.ntmps43
    go_wp2_with fail
    refine (l06Are_any v js w hv).mono ?_
    rintro e w1 ⟨rfl, e1⟩
    have hD : Drew w w1 := by rw [← e1]; exact Drew.refl _
    clear e1
    rw [hj]
    go_wp2
    go_ret2
    exact ⟨_, by rw [HE.out]; rfl, by rw [HE.out]; exact OwnI.nil _ _ _ (Nat.le_refl _), hD.below _⟩
  · have HE := Lib.hid (show dueOrder js = (dueOrderL js, true) by simp [dueOrder, hj])
    go_enter Try.func43, Try.ntmps43
    go_wp2_with fail
    refine (l06Are_any v js w hv).mono ?_
    rintro e w1 ⟨rfl, e1⟩
    have hD : Drew w w1 := by rw [← e1]; exact Drew.refl _
    clear e1
    rw [hj]
    have hs1 : w1.heap.size = w.heap.size := by rw [hD.heap]
    have HS1 := Lib.hid hs1
    have HC := Lib.hid (l06Due_any v js w1 (hv.drew hD) (by omega) hz)
    clear hs1
    go_wp2_with fail
    refine HC.out.mono ?_
    rintro e w2 ⟨u, rfl, ho, hb⟩
    have HO := Lib.hid ho
    clear ho
    go_wp2
    go_ret2
    exact ⟨_, by rw [HE.out]; rfl, by rw [HE.out, ← HS1.out]; exact HO.out, (hD.below _).trans (hb.mono (by rw [HS1.out]; exact Nat.le_refl _))⟩
set_option maxHeartbeats 800000 in
set_option maxRecDepth 100000 in
theorem dueCmp_any {l h p : Nat} (v : Value) (js : List JobD) (w : World) (hp : w.cell? ⟨p, 0, none⟩ = some v) (hv : Jobs w l h v js) (a b : Int) (ha : 0 ≤ a) (ha2 : a < (js.length : Int)) (hb : 0 ≤ b) (hb2 : b < (js.length : Int)) (hz : js.length ≤ 1048576) :
    Calls Try.prog 97 #[.int .i64 a, .int .i64 b, .pointer (some ⟨p, 0, none⟩)] w fun e w' => e = .returned (.int .i64 (keyCmp (dues js) a b)) ∧ Drew w w' := by
  obtain ⟨an, rfl⟩ : ∃ an : Nat, a = (an : Int) := ⟨a.toNat, by omega⟩
  obtain ⟨bn, rfl⟩ : ∃ bn : Nat, b = (bn : Int) := ⟨b.toNat, by omega⟩
  have h1 : an < js.length := by omega
  have h2 : bn < js.length := by omega
  obtain ⟨va, cap, rfl, hc1, hc2, hd⟩ := hv.out
  rcases hd with hd | ⟨blk, off, rfl, hb1, hbb2, hb3, hcell⟩
  · rw [hd] at h1; simp at h1
  have hca := (hcell an h1).2.1
  have hcb := (hcell bn h2).2.1
  have HE := Lib.hid (show keyCmp (dues js) (an : Int) (bn : Int) = cmpI js[an].x1 js[bn].x1 by
    unfold keyCmp; rw [Int.toNat_natCast, Int.toNat_natCast, dues_getD _ _ h1, dues_getD _ _ h2])
  clear hcell hv
  go_enter Try.func97, Try.ntmps97
  go_wp2_with fail
  go_quiet ((go_at_call 79; exact quiet_same (compare_any _ _ _)))
  go_wp2
  go_ret
  exact ⟨ret_int HE.out.symm, Drew.one _ _⟩
set_option maxHeartbeats 800000 in
set_option maxRecDepth 100000 in
theorem dueOrder_any {l h : Nat} (v : Value) (js : List JobD) (w : World) (hv : Jobs w l h v js) (hh : h ≤ w.heap.size) (h0 : 0 < js.length) (hz : js.length ≤ 12) :
    Calls Try.prog 81 #[v] w fun e w' => ∃ u, e = .returned u ∧ OwnI w' w.heap.size w'.heap.size u (dueOrderL js) ∧ Below w.heap.size w w' := by
  obtain ⟨va, cap, rfl, hc1, hc2, hd⟩ := hv.out
  obtain ⟨W, hW⟩ : ∃ W, W = w.alloc (.cells #[.slice va js.length cap] 26) := ⟨_, rfl⟩
  have hBW : Below w.heap.size w W := by rw [hW]; exact below_newW _ _
  have hsW : w.heap.size < W.heap.size := by rw [hW]; simp
  have hbx : W.cell? ⟨w.heap.size, 0, none⟩ = some (.slice va js.length cap) := by rw [hW]; exact one_new _ _ _
  have HJ := Lib.hid (hv.below hBW hh)
  have HBX := Lib.hid hbx
  have HO := Lib.hid (orderBy_any 97 (fun _ _ => by kernel_rfl) #[.pointer (some ⟨w.heap.size, 0, none⟩)] (keyCmp (dues js)) (n := js.length) W h0 (by omega) (fun wx hbw a b h1 h2 h3 h4 => by
    have hc : wx.cell? ⟨w.heap.size, 0, none⟩ = some (.slice va js.length cap) := by rw [hbw.cell (p := ⟨w.heap.size, 0, none⟩) hsW]; exact HBX.out
    exact dueCmp_any _ js wx hc (HJ.out.below hbw (by omega)) a b h1 h2 h3 h4 (by omega)))
  rw [keyCmp_lt] at HO
  clear hv hd
  go_enter Try.func81, Try.ntmps81
  go_wp2_with fail
  rw [← hW]
  clear hW
  go_wp2_with fail
  refine HO.out.mono ?_
  rintro e w2 ⟨u, rfl, ho, hb⟩
  have HO2 := Lib.hid ho
  clear ho
  go_wp2
  go_ret
  exact ⟨_, rfl, HO2.out.mono (by omega) (Nat.le_refl _) (Nat.le_refl _), hBW.trans (hb.mono (by omega))⟩
set_option maxHeartbeats 800000 in
set_option maxRecDepth 100000 in
theorem implDueOrder_any (w : World) {l h : Nat} (v : Value) (js : List JobD) (hv : Jobs w l h v js) (hh : h ≤ w.heap.size) (hz : js.length ≤ 1048576) :
    Calls Try.prog 44 #[v] w fun e w' => ∃ r, e = .returned (.tuple #[r, .bool (dueOrder js).2]) ∧ OwnI w' w.heap.size w'.heap.size r (dueOrder js).1 ∧ Below w.heap.size w w' := by
  cases hj : areJobs js
  · have HE := Lib.hid (show dueOrder js = ([], false) by simp [dueOrder, hj])
    go_enter Try.func44, Try.ntmps44
    go_wp2_with fail
    refine (implAreJobs_any w v js hv hh hz).mono ?_
    rintro e w1 ⟨rfl, hb1⟩
    rw [hj]
    go_wp2
    go_ret2
    exact ⟨_, by rw [HE.out]; rfl, by rw [HE.out]; exact OwnI.nil _ _ _ (Nat.le_refl _), hb1⟩
  · have HE := Lib.hid (show dueOrder js = (dueOrderL js, true) by simp [dueOrder, hj])
    have hl := areJobs_len hj
    go_enter Try.func44, Try.ntmps44
    go_wp2_with fail
    refine (implAreJobs_any w v js hv hh hz).mono ?_
    rintro e w1 ⟨rfl, hb1⟩
    rw [hj]
    have hs1 := hb1.size
    have HC := Lib.hid (dueOrder_any v js w1 (hv.below hb1 hh) (by omega) hl.1 hl.2)
    go_wp2_with fail
    refine HC.out.mono ?_
    rintro e w2 ⟨u, rfl, ho, hb⟩
    have HO := Lib.hid ho
    clear ho
    go_wp2
    go_ret2
    exact ⟨_, by rw [HE.out]; rfl, by rw [HE.out]; exact HO.out.mono hs1 (Nat.le_refl _) (Nat.le_refl _), hb1.trans (hb.mono hs1)⟩
end Go.Proofs.Ytgbomnhidfejbaa
