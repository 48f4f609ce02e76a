/-
  Contracts of the functions of the laws that copy, compare, measure and mark slices of floats of 32 bits.
-/
import Derived.Test.YtocngcpdpeflnaaFltP
import Derived.Deep.RegionLaw
namespace Go.Proofs.Ytocngcpdpeflnaa
open Go.RowKit
set_option linter.unusedVariables false
set_option maxRecDepth 100000
open Ieee (Datum Format single double)
@[go_sem] theorem run_store_flt (P : Program) (w : World) (a : Addr) (m : Mode) (k : FloatKind) (b : Nat) : (store a (.float k b) m).run P w = stored P w a (.float k b) m := run_store P w a _ m rfl
set_option maxHeartbeats 400000 in
set_option maxRecDepth 100000 in
theorem toFloat32S_any {l h : Nat} (v : Value) (xs : List Nat) (w : World) (hv : Flts w l h v xs) (hl : xs.length ≤ 1099511627776) :
    Calls Try.prog 7 #[v] w fun e w' => ∃ u, e = .returned u ∧ OwnFL w' w.heap.size w'.heap.size u xs ∧ Below w.heap.size w w' := by
  obtain ⟨a, cap, rfl, hc1, hc2, hd⟩ := hv.out
  obtain ⟨i0, hi, hz0, hz1, hz2⟩ := info_parts info_f32
  have hml : xs.length ≤ maxLen := by unfold maxLen; omega
  go_enter Try.func7, Try.ntmps7
  go_wp2_with (refine wpList_make_full _ rfl _ _ 22 rfl w.heap.size 23 i0 (.float .f32 0) 1 Try.underlying22 hi hz0 hz1 .i64 .i64 _ _ xs.length rfl rfl rfl rfl ?c1 hml ?c2 ?_)
  case c1 => rw [hz2]; omega
  case c2 => exact Nat.le_refl _
  intro w1 hown hg
  have hrow := RowFL.made hown
  have hb0 : Below w.heap.size w w1 := (Below.refl _ _).grown hg (Nat.le_refl _) (fun k hk => by cases hk)
  clear hown hg
  go_wp2_with fail
  go_loopw [4] (fun i wr => ∃ (k : Nat) (L : List Nat), k ≤ xs.length ∧ i = .int .i64 k ∧ Hid (∀ j, j < k → L[j]? = xs[j]?) ∧ RowFL wr w.heap.size w.heap.size xs.length xs.length L ∧ Below w.heap.size w wr) (fun i _ => xs.length - (intOf i).toNat)
  case atStart => exact ⟨0, _, Nat.zero_le _, rfl, fun j hj => by omega, hrow, hb0⟩
  case round =>
    obtain ⟨k, L, hk, rfl, HL, hown, hb⟩ := hrel
    clear hrow hb0
    by_cases hlt : k < xs.length
    · rcases hd with rfl | ⟨b, off, rfl, hb1, hb2, hb3, hcell⟩
      · simp at hlt
      have hck := hcell k hlt
      rw [← hb.cell (p := ⟨b, off + k, none⟩) (show b < w.heap.size by omega)] at hck
      have hd1 := hown.cell hlt
      have hf1 := hown.frozen k
      clear hcell
      go_wp2_with fail
      go_roundw
      case rel =>
        refine ⟨k + 1, _, by omega, by go_num, ?_, hown.stored k _, hb.setCell (Nat.le_refl _) _⟩
        intro j hj
        have hL := hown.length
        by_cases e : j = k
        · subst e; rw [List.getElem?_set_self (by omega)]; simp
        · rw [List.getElem?_set_ne (by omega)]; exact HL.out j (by omega)
      case measure => simp [intOf]; omega
    · go_wp2
      go_ret
      have hL := hown.length
      have e : L = xs := by
        apply List.ext_getElem?
        intro j
        by_cases hj : j < k
        · exact HL.out j hj
        · rw [List.getElem?_eq_none (by omega), List.getElem?_eq_none (by omega)]
      subst e
      exact ⟨_, rfl, hown.own hl hown.lt (Nat.le_refl _), hb⟩
/-! ### sameFloat -/
theorem ord64_nan {a b : Nat} (h : nanG a = true) : FloatKind.f64.format.order a b = none := order_nan h
theorem ord64_self {a : Nat} (h : nanG a = false) : FloatKind.f64.format.order a a = some .eq := order_self h
theorem quo_one {a : Nat} (h : nanG a = false) : ∃ r, floatBits .quo .f64 4607182418800017408 a = some r := by
  have h1 : double.read 4607182418800017408 = .number false 4503599627370496 (-52) := by decide
  show ∃ r, double.div 4607182418800017408 a = some r
  unfold Format.div
  rw [h1]
  unfold nanG at h
  cases hr : double.read a with
  | nan s t => rw [hr] at h; cases h
  | infinity s => exact ⟨_, rfl⟩
  | number s m e =>
    by_cases h0 : m = 0
    · subst h0; exact ⟨_, rfl⟩
    · simp only [Datum.quotient, if_neg h0, Option.map_some]; exact ⟨_, rfl⟩
set_option maxHeartbeats 400000 in
set_option maxRecDepth 100000 in
theorem sameFloat_nan (a b : Nat) (w : World) (ha : nanG a = true) (hb : nanG b = true) :
    Calls Try.prog 27 #[.float .f64 a, .float .f64 b] w fun e w' => e = .returned (.bool true) ∧ Drew w w' := by
  have h1 : (FloatKind.f64.format.order a a != some .eq) = true := by rw [ord64_nan ha]; rfl
  have h2 : (FloatKind.f64.format.order b b != some .eq) = true := by rw [ord64_nan hb]; rfl
  go_enter Try.func27, Try.ntmps27
  go_wp2
  go_ret
  exact ⟨rfl, Drew.refl _⟩
set_option maxHeartbeats 400000 in
set_option maxRecDepth 100000 in
theorem sameFloat_eq (a : Nat) (w : World) (ha : nanG a = false) :
    Calls Try.prog 27 #[.float .f64 a, .float .f64 a] w fun e w' => e = .returned (.bool true) ∧ Drew w w' := by
  have h1 : (FloatKind.f64.format.order a a != some .eq) = false := by rw [ord64_self ha]; rfl
  have h2 : (FloatKind.f64.format.order a a == some .eq) = true := by rw [ord64_self ha]; rfl
  obtain ⟨r, hr⟩ := quo_one ha
  have hq : ∀ (wx : World), (binOp .quo 46 (.float .f64 4607182418800017408) (.float .f64 a)).run Try.prog wx = .ok (.float .f64 r) wx := fun wx => run_float_arith (P := Try.prog) wx .quo 46 .f64 _ a r hr
  cases hz : (FloatKind.f64.format.order a 0 == some .eq)
  all_goals
    go_enter Try.func27, Try.ntmps27
    go_wp2
    go_ret
    exact ⟨by first | rfl | simp, Drew.refl _⟩
/-- what a draw gives for a NaN made wider -/
def nanW (b : Nat) (w : World) : Nat := (Question.nanConv .f64 b).cut (w.tape w.drawn (.nanConv .f64 b))
theorem nanW_nan (b : Nat) (w : World) : nanG (nanW b w) = true := nanWord64 _
theorem conv_nan {b : Nat} (h : nanF b = true) (wx : World) : (convert 23 46 (.float .f32 b)).run Try.prog wx = .ok (.float .f64 (nanW b wx)) wx.drew := by
  have hs : Try.prog.underlying 23 = some (.float .f32) := by kernel_rfl
  have hd : Try.prog.underlying 46 = some (.float .f64) := by kernel_rfl
  have hdec : FloatKind.f32.decode b = single.read b := rfl
  have hne : ¬ (FloatKind.f32 = FloatKind.f64) := by decide
  unfold nanF at h
  cases hr : single.read b with
  | number s m e => rw [hr] at h; cases h
  | infinity s => rw [hr] at h; cases h
  | nan s t => simp [convert, run_underlying hs, run_underlying hd, Conv.floatToFloat, hdec, hr, hne, nanW, Question.forced]
theorem conv_wide {b r : Nat} (h : wideF b = some r) (wx : World) : (convert 23 46 (.float .f32 b)).run Try.prog wx = .ok (.float .f64 r) wx :=
  run_convert_float_float (P := Try.prog) wx 23 46 .f32 .f64 b r (by kernel_rfl) (by kernel_rfl) h
set_option maxHeartbeats 1000000 in
set_option maxRecDepth 100000 in
theorem eqFloat32S_any {l h l' h' : Nat} (v u : Value) (xs : List Nat) (w : World) (hv : Flts w l h v xs) (hu : Flts w l' h' u xs) :
    Calls Try.prog 9 #[v, u] w fun e w' => e = .returned (.bool true) ∧ Drew w w' := by
  obtain ⟨a, cap, rfl, hc1, hc2, hd⟩ := hv.out
  obtain ⟨a', cap', rfl, gc1, gc2, gd⟩ := hu.out
  go_enter Try.func9, Try.ntmps9
  go_wp2_with fail
  go_loopw [5] (fun i wr => ∃ k : Nat, k ≤ xs.length ∧ i = .int .i64 k ∧ Drew w wr) (fun i _ => xs.length - (intOf i).toNat)
  case atStart => exact ⟨0, Nat.zero_le _, rfl, Drew.refl _⟩
  case round =>
    obtain ⟨k, hk, rfl, hD⟩ := hrel
    have hcw := hD.cell
    by_cases hlt : k < xs.length
    · rcases hd with rfl | ⟨b, off, rfl, hb1, hb2, hb3, hcell⟩
      · simp at hlt
      rcases gd with rfl | ⟨b', off', rfl, gb1, gb2, gb3, gcell⟩
      · simp at hlt
      have hck := hcell k hlt
      have gck := gcell k hlt
      clear hcell gcell
      cases hn : nanF xs[k]
      · obtain ⟨r, hr, hrn⟩ := wide_some hn
        have hcv := conv_wide hr
        have HS := Lib.hid (fun wx => sameFloat_eq r wx hrn)
        go_wp2_with fail
        go_quiet ((with_reducible exact quiet_drew (HS.out _)))
        go_wp2
        go_roundw
        case rel => exact ⟨k + 1, by omega, by go_num, hD.step _⟩
        case measure => simp [intOf]; omega
      · have hcv := conv_nan hn
        go_wp2_with fail
        go_region_law (go_simp; go_at_call 27; refine (sameFloat_nan _ _ _ (nanW_nan _ _) (nanW_nan _ _)).mono ?_; rintro e w3 ⟨rfl, m3, rfl⟩)
        all_goals
          go_wp2
          go_roundw
          case rel => exact ⟨k + 1, by omega, by go_num, hD.step _⟩
          case measure => simp [intOf]; omega
    · go_wp2
      go_ret
      exact ⟨rfl, hD⟩
theorem szFloat32S_any {l h : Nat} (v : Value) (xs : List Nat) (left : Int) (w : World) (hv : Flts w l h v xs) (h1 : 0 ≤ left) (h2 : left ≤ 1048576) :
    Calls Try.prog 28 #[v, .int .i64 left] w fun e w' => ∃ n : Int, e = .returned (.int .i64 n) ∧ w = w' ∧ n ≤ left ∧ -1 ≤ n ∧ (0 ≤ n → xs.length ≤ left - n) ∧ (0 ≤ n → n = left - xs.length) := by
  obtain ⟨a, cap, rfl, hc1, hc2, hd⟩ := hv.out
  have hl := hv.len
  by_cases hlt : left - xs.length < 0
  all_goals
    go_enter Try.func28, Try.ntmps28
    go_wp2
    go_ret
    exact ⟨_, rfl, rfl, by omega, by omega, by omega, by omega⟩
def markFL (k : Int) : Nat := floatOfInt .f32 k
def marksFL (k : Int) (n : Nat) : List Nat := (List.range n).map fun (j : Nat) => markFL (k + (j : Int))
theorem marksFL_succ (k : Int) (n : Nat) : marksFL k (n + 1) = marksFL k n ++ [markFL (k + (n : Int))] := by simp [marksFL, List.range_succ]
theorem marksFL_len (k : Int) (n : Nat) : (marksFL k n).length = n := by simp [marksFL]
theorem marksFL_set (k : Int) (xs : List Nat) (j : Nat) (hj : j < xs.length) : (marksFL k j ++ xs.drop j).set j (markFL (k + (j : Int))) = marksFL k (j + 1) ++ xs.drop (j + 1) := by
  rw [drop_cons xs j hj, List.set_append_right _ _ (by rw [marksFL_len]; exact Nat.le_refl _), marksFL_len, Nat.sub_self, List.set_cons_zero, marksFL_succ]; simp
set_option maxHeartbeats 400000 in
set_option maxRecDepth 100000 in
theorem markFloat32S_any {lo hi : Nat} (v : Value) (xs : List Nat) (k : Int) (w : World) (hv : OwnFL w lo hi v xs) (h0 : 0 ≤ k) (h1 : k + xs.length ≤ 17592186043904) :
    Calls Try.prog 10 #[v, .int .i64 k] w fun e w' => e = .returned (.int .i64 (k + xs.length)) ∧ OwnFL w' lo hi v (marksFL k xs.length) ∧ Same lo hi w w' := by
  have hh := hv.own.hsz
  rcases hv.rowOf with ⟨rfl, rfl⟩ | ⟨g, cap, rfl, hg, hc1, hc2, hrow⟩
  · have hl0 : ¬ ((0 : Int) < (([] : List Nat).length : Int)) := by simp
    go_enter Try.func10, Try.ntmps10
    go_wp2_with fail
    refine wp_loop_rounds 1 ?_
    rw [rounds_succ]
    go_wp2
    go_ret
    exact ⟨ret_int (by simp), by simpa [marksFL] using hv, Same.refl _ _ _⟩
  · have hown0 := Lib.hid hv
    have hge := hrow.ge
    go_enter Try.func10, Try.ntmps10
    go_wp2_with fail
    go_loopw [1, 5] (fun q i wr => ∃ j : Nat, j ≤ xs.length ∧ i = .int .i64 j ∧ q = .int .i64 (k + (j : Int)) ∧ RowFL wr lo g xs.length cap (marksFL k j ++ xs.drop j) ∧ Same lo hi w wr) (fun _ i _ => xs.length - (intOf i).toNat)
    case atStart => exact ⟨0, Nat.zero_le _, rfl, by simp, by simpa [marksFL] using hrow, Same.refl _ _ _⟩
    case round =>
      obtain ⟨j, hj, rfl, rfl, hown, hs⟩ := hrel
      clear hrow
      by_cases hlt : j < xs.length
      · have hd1 := hown.cell hlt
        have hf1 := hown.frozen j
        go_wp2_with fail
        go_roundw
        case rel =>
          refine ⟨j + 1, by omega, by go_num, by first | go_num | (simp; omega), ?_, hs.setCell hge hg _⟩
          rw [← marksFL_set k xs j hlt]
          exact hown.stored j _
        case measure => simp [intOf]; omega
      · go_wp2
        go_ret
        obtain rfl : j = xs.length := by omega
        rw [List.drop_length, List.append_nil] at hown
        have hsz := hs.size
        have hl := hown0.out.len
        have e := hown.own hl hg (show hi ≤ wr.heap.size by omega)
        have e2 : (marksFL k xs.length).length = xs.length := marksFL_len _ _
        exact ⟨rfl, e, hs⟩
set_option maxHeartbeats 400000 in
set_option maxRecDepth 100000 in
theorem heldFloat32S_any {l h : Nat} (v : Value) (k : Int) (n : Nat) (w : World) (hv : Flts w l h v (marksFL k n)) (h0 : 0 ≤ k) (h1 : k + n ≤ 17592186043904) :
    Calls Try.prog 11 #[v, .int .i64 k] w fun e w' => e = .returned (.int .i64 (k + n)) ∧ Drew w w' := by
  obtain ⟨a, cap, rfl, hc1, hc2, hd⟩ := hv.out
  rw [marksFL_len] at *
  go_enter Try.func11, Try.ntmps11
  go_wp2_with fail
  go_loopw [1, 5] (fun q i wr => ∃ j : Nat, j ≤ n ∧ i = .int .i64 j ∧ q = .int .i64 (k + (j : Int)) ∧ Drew w wr) (fun _ i _ => n - (intOf i).toNat)
  case atStart => exact ⟨0, Nat.zero_le _, rfl, by simp, Drew.refl _⟩
  case round =>
    obtain ⟨j, hj, rfl, rfl, hD⟩ := hrel
    have hcw := hD.cell
    by_cases hlt : j < n
    · rcases hd with hd | ⟨b, off, rfl, hb1, hb2, hb3, hcell⟩
      · have := congrArg List.length hd; rw [marksFL_len] at this; simp at this; omega
      have hck := hcell j hlt
      have he : (marksFL k n).getD j 0 = markFL (k + (j : Int)) := by simp [marksFL, hlt]
      rw [he] at hck
      clear hcell he
      unfold markFL at hck
      have ho : (FloatKind.f32.format.order (floatOfInt .f32 (k + (j : Int))) (floatOfInt .f32 (k + (j : Int))) != some .eq) = false := by
        rw [show FloatKind.f32.format.order (floatOfInt .f32 (k + (j : Int))) (floatOfInt .f32 (k + (j : Int))) = some .eq from ofInt_order _]; rfl
      have hcv : ∀ wx, (convert 3 23 (.int .i64 (k + (j : Int)))).run Try.prog wx = .ok (.float .f32 (floatOfInt .f32 (k + (j : Int)))) wx := fun wx => run_convert_int_float (P := Try.prog) wx 3 23 .i64 .f32 _ (by kernel_rfl) (by kernel_rfl)
      go_wp2
      go_roundw
      case rel => exact ⟨j + 1, by omega, by go_num, by first | go_num | (simp; omega), hD⟩
      case measure => simp [intOf]; omega
    · go_wp2
      go_ret
      obtain rfl : j = n := by omega
      exact ⟨rfl, hD⟩
end Go.Proofs.Ytocngcpdpeflnaa
