/-
  slices.Sort at []int64, laid (the first declarations are what the kit's shelf_lay_g builds, by lay-plain, with marks by laytpl.py).
-/
import Derived.Test.YtkankfdpodofjaaLay
import Derived.Shelf.SortG.Plain
import Derived.Shelf.SortG.SortNone
import Derived.Sort.OwnSortedInts
namespace Go.Proofs.Ytkankfdpodofjaa
open Go.RowKit
set_option linter.unusedVariables false
set_option maxRecDepth 100000

def laySort_ren : Go.Shelf.Ren := ⟨fun | 53 => 58 | 64 => 89 | 63 => 88 | 78 => 105 | 79 => 106 | 70 => 96 | 71 => 97 | 72 => 98 | 73 => 99 | 74 => 100 | 75 => 101 | 59 => 102 | 76 => 103 | 77 => 104 | 88 => 110 | 89 => 111 | 90 => 112 | 91 => 113 | 92 => 114 | 68 => 91 | 96 => 118 | n => n, fun | 22 => 25 | 23 => 2 | 3 => 3 | 51 => 41 | 0 => 0 | 67 => 113 | 69 => 94 | 4 => 4 | 61 => 105 | 60 => 104 | 44 => 110 | 5 => 5 | 9 => 9 | 75 => 117 | 79 => 121 | 83 => 125 | 84 => 126 | n => n, fun | n => n⟩
theorem laySort : Go.Proofs.SlLaysN.n53 Try.prog laySort_ren := {
  mixed := by kernel_rfl
  f53 := ⟨Try.f58.name, by decide, Try.func58.trans (congrArg some (by kernel_rfl))⟩
  f59 := ⟨Try.f102.name, by decide, Try.func102.trans (congrArg some (by kernel_rfl))⟩
  f63 := ⟨Try.f88.name, by decide, Try.func88.trans (congrArg some (by kernel_rfl))⟩
  f64 := Try.func89.trans (congrArg some (by kernel_rfl))
  f68 := ⟨Try.f91.name, by decide, Try.func91.trans (congrArg some (by kernel_rfl))⟩
  f70 := ⟨Try.f96.name, by decide, Try.func96.trans (congrArg some (by kernel_rfl))⟩
  f71 := ⟨Try.f97.name, by decide, Try.func97.trans (congrArg some (by kernel_rfl))⟩
  f72 := ⟨Try.f98.name, by decide, Try.func98.trans (congrArg some (by kernel_rfl))⟩
  f73 := ⟨Try.f99.name, by decide, Try.func99.trans (congrArg some (by kernel_rfl))⟩
  f74 := ⟨Try.f100.name, by decide, Try.func100.trans (congrArg some (by kernel_rfl))⟩
  f75 := ⟨Try.f101.name, by decide, Try.func101.trans (congrArg some (by kernel_rfl))⟩
  f76 := ⟨Try.f103.name, by decide, Try.func103.trans (congrArg some (by kernel_rfl))⟩
  f77 := ⟨Try.f104.name, by decide, Try.func104.trans (congrArg some (by kernel_rfl))⟩
  f78 := Try.func105.trans (congrArg some (by kernel_rfl))
  f79 := Try.func106.trans (congrArg some (by kernel_rfl))
  f88 := ⟨Try.f110.name, by decide, Try.func110.trans (congrArg some (by kernel_rfl))⟩
  f89 := Try.func111.trans (congrArg some (by kernel_rfl))
  f90 := Try.func112.trans (congrArg some (by kernel_rfl))
  f91 := ⟨Try.f113.name, by decide, Try.func113.trans (congrArg some (by kernel_rfl))⟩
  f92 := ⟨Try.f114.name, by decide, Try.func114.trans (congrArg some (by kernel_rfl))⟩
  f96 := ⟨Try.f118.name, by decide, Try.func118.trans (congrArg some (by kernel_rfl))⟩
  t0 := Try.underlying0
  a0 := Try.isAgg0
  z0 := Try.sizeOf0
  v0 := Try.zeroValue0
  t3 := Try.underlying3
  a3 := Try.isAgg3
  z3 := Try.sizeOf3
  v3 := Try.zeroValue3
  t4 := Try.underlying4
  a4 := Try.isAgg4
  z4 := Try.sizeOf4
  v4 := Try.zeroValue4
  t5 := Try.underlying5
  a5 := Try.isAgg5
  z5 := Try.sizeOf5
  v5 := Try.zeroValue5
  t9 := Try.underlying9
  a9 := Try.isAgg9
  z9 := Try.sizeOf9
  v9 := Try.zeroValue9
  t22 := Try.underlying25
  a22 := Try.isAgg25
  z22 := Try.sizeOf25
  v22 := Try.zeroValue25
  t23 := Try.underlying2
  a23 := Try.isAgg2
  z23 := Try.sizeOf2
  v23 := Try.zeroValue2
  t44 := Try.underlying110
  a44 := Try.isAgg110
  z44 := Try.sizeOf110
  v44 := Try.zeroValue110
  t51 := Try.underlying41
  a51 := Try.isAgg41
  z51 := Try.sizeOf41
  v51 := Try.zeroValue41
  t60 := Try.underlying104
  a60 := Try.isAgg104
  z60 := Try.sizeOf104
  v60 := Try.zeroValue104
  t61 := Try.underlying105
  a61 := Try.isAgg105
  z61 := Try.sizeOf105
  v61 := Try.zeroValue105
  t67 := Try.underlying113
  a67 := Try.isAgg113
  z67 := Try.sizeOf113
  v67 := Try.zeroValue113
  t69 := Try.underlying94
  a69 := Try.isAgg94
  z69 := Try.sizeOf94
  v69 := Try.zeroValue94
  t75 := Try.underlying117
  a75 := Try.isAgg117
  z75 := Try.sizeOf117
  v75 := Try.zeroValue117
  t79 := Try.underlying121
  a79 := Try.isAgg121
  z79 := Try.sizeOf121
  v79 := Try.zeroValue121
  t83 := Try.underlying125
  a83 := Try.isAgg125
  z83 := Try.sizeOf125
  v83 := Try.zeroValue125
  t84 := Try.underlying126
  a84 := Try.isAgg126
  z84 := Try.sizeOf126
  v84 := Try.zeroValue126 }
def sortI (T : List Int) : List Int := T.mergeSort fun x y => decide (x ≤ y)
theorem sortI_len (T : List Int) : (sortI T).length = T.length := List.length_mergeSort T
theorem slicesSort_any {lo hi : Nat} (v : Value) (T : List Int) (w : World) (ho : OwnI w lo hi v T) (hT : T.length ≤ 1048576) :
    Calls Try.prog 58 #[v] w fun e w' => e = .returned (.tuple #[]) ∧ OwnI w' lo w'.heap.size v (sortI T) ∧ ∀ B w0, B ≤ lo → Below B w0 w → Below B w0 w' := by
  have hr : ∀ x ∈ sortI T, I64 x := fun x hx => ho.rng x ((List.mem_mergeSort).1 hx)
  rcases ho.rowOf with ⟨rfl, rfl⟩ | ⟨g, cap, rfl, hg, h1, h2, hrow⟩
  · refine Calls.mono (AnyG.slices_Sort_int_none laySort none 0 w) ?_
    rintro e w' ⟨rfl, rfl⟩
    exact ⟨rfl, by simpa [sortI] using OwnI.nil _ _ _ (Nat.le_refl _), fun B w0 _ h => h⟩
  · obtain ⟨cur, k1, k2, k3, k4⟩ := rowI_block hrow
    have hH : Go.Sort.Holds (Value.int .i64) w g 0 T.toArray := fun j hj => by
      have hj' : j < T.length := by simpa using hj
      refine ⟨?_, by rw [Nat.zero_add]; exact hrow.frozen j⟩
      rw [Nat.zero_add, hrow.cell hj']
      simp [List.getD, getElem!_pos, hj']
    refine Calls.mono (AnyG.slices_Sort_int laySort g 0 cap T w hH hrow.lt (by omega)) ?_
    rintro e w' ⟨rfl, n, os, rfl⟩
    have hown := ownsRow_sortedI (n := n) (os := os) (ts := sortI T) (sortI_len T) hrow.ge k1 k2 k3 (by simpa using k4)
    have hR : RowI _ lo g T.length cap (sortI T) := ⟨⟨hown⟩⟩
    refine ⟨rfl, ?_, fun B w0 hB hb => hb.grown (grownBy_sortedI _) (Nat.le_of_lt (Nat.lt_of_le_of_lt (Nat.le_trans hB hrow.ge) hrow.lt)) (fun j hj => by cases hj; exact Nat.le_trans hB hrow.ge)⟩
    exact hR.own hr (by omega) hR.lt (Nat.le_refl _)
end Go.Proofs.Ytkankfdpodofjaa
