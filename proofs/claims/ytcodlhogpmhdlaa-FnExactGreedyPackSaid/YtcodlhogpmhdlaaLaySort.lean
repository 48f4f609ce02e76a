/-
  slices.Sort at []int64, laid (the first declarations are what the kit's shelf_lay_g builds, by lay-plain, with marks by laytpl.py).
-/
import Derived.Test.YtcodlhogpmhdlaaLay
import Derived.Shelf.SortG.Plain
import Derived.Shelf.SortG.SortNone
import Derived.Sort.OwnSortedInts
namespace Go.Proofs.Ytcodlhogpmhdlaa
open Go.RowKit
set_option linter.unusedVariables false
set_option maxRecDepth 100000

def laySort_ren : Go.Shelf.Ren := ⟨fun | 53 => 77 | 64 => 124 | 63 => 123 | 78 => 144 | 79 => 145 | 70 => 135 | 71 => 136 | 72 => 137 | 73 => 138 | 74 => 139 | 75 => 140 | 59 => 141 | 76 => 142 | 77 => 143 | 88 => 150 | 89 => 151 | 90 => 152 | 91 => 153 | 92 => 154 | 68 => 126 | 96 => 158 | n => n, fun | 22 => 25 | 23 => 2 | 3 => 3 | 51 => 41 | 0 => 0 | 67 => 134 | 69 => 113 | 4 => 4 | 61 => 126 | 60 => 125 | 44 => 131 | 5 => 5 | 9 => 9 | 75 => 140 | 79 => 144 | 83 => 148 | 84 => 149 | n => n, fun | n => n⟩
theorem laySort : Go.Proofs.SlLaysN.n53 Try.prog laySort_ren := {
  mixed := by kernel_rfl
  f53 := ⟨Try.f77.name, by decide, Try.func77.trans (congrArg some (by kernel_rfl))⟩
  f59 := ⟨Try.f141.name, by decide, Try.func141.trans (congrArg some (by kernel_rfl))⟩
  f63 := ⟨Try.f123.name, by decide, Try.func123.trans (congrArg some (by kernel_rfl))⟩
  f64 := Try.func124.trans (congrArg some (by kernel_rfl))
  f68 := ⟨Try.f126.name, by decide, Try.func126.trans (congrArg some (by kernel_rfl))⟩
  f70 := ⟨Try.f135.name, by decide, Try.func135.trans (congrArg some (by kernel_rfl))⟩
  f71 := ⟨Try.f136.name, by decide, Try.func136.trans (congrArg some (by kernel_rfl))⟩
  f72 := ⟨Try.f137.name, by decide, Try.func137.trans (congrArg some (by kernel_rfl))⟩
  f73 := ⟨Try.f138.name, by decide, Try.func138.trans (congrArg some (by kernel_rfl))⟩
  f74 := ⟨Try.f139.name, by decide, Try.func139.trans (congrArg some (by kernel_rfl))⟩
  f75 := ⟨Try.f140.name, by decide, Try.func140.trans (congrArg some (by kernel_rfl))⟩
  f76 := ⟨Try.f142.name, by decide, Try.func142.trans (congrArg some (by kernel_rfl))⟩
  f77 := ⟨Try.f143.name, by decide, Try.func143.trans (congrArg some (by kernel_rfl))⟩
  f78 := Try.func144.trans (congrArg some (by kernel_rfl))
  f79 := Try.func145.trans (congrArg some (by kernel_rfl))
  f88 := ⟨Try.f150.name, by decide, Try.func150.trans (congrArg some (by kernel_rfl))⟩
  f89 := Try.func151.trans (congrArg some (by kernel_rfl))
  f90 := Try.func152.trans (congrArg some (by kernel_rfl))
  f91 := ⟨Try.f153.name, by decide, Try.func153.trans (congrArg some (by kernel_rfl))⟩
  f92 := ⟨Try.f154.name, by decide, Try.func154.trans (congrArg some (by kernel_rfl))⟩
  f96 := ⟨Try.f158.name, by decide, Try.func158.trans (congrArg some (by kernel_rfl))⟩
  t0 := Try.underlying0
  a0 := Try.isAgg0
  z0 := Try.sizeOf0
  v0 := Try.zeroValue0
  t3 := Try.underlying3
  a3 := Try.isAgg3
  z3 := Try.sizeOf3
  v3 := Try.zeroValue3
  t4 := Try.underlying4
  a4 := Try.isAgg4
  z4 := Try.sizeOf4
  v4 := Try.zeroValue4
  t5 := Try.underlying5
  a5 := Try.isAgg5
  z5 := Try.sizeOf5
  v5 := Try.zeroValue5
  t9 := Try.underlying9
  a9 := Try.isAgg9
  z9 := Try.sizeOf9
  v9 := Try.zeroValue9
  t22 := Try.underlying25
  a22 := Try.isAgg25
  z22 := Try.sizeOf25
  v22 := Try.zeroValue25
  t23 := Try.underlying2
  a23 := Try.isAgg2
  z23 := Try.sizeOf2
  v23 := Try.zeroValue2
  t44 := Try.underlying131
  a44 := Try.isAgg131
  z44 := Try.sizeOf131
  v44 := Try.zeroValue131
  t51 := Try.underlying41
  a51 := Try.isAgg41
  z51 := Try.sizeOf41
  v51 := Try.zeroValue41
  t60 := Try.underlying125
  a60 := Try.isAgg125
  z60 := Try.sizeOf125
  v60 := Try.zeroValue125
  t61 := Try.underlying126
  a61 := Try.isAgg126
  z61 := Try.sizeOf126
  v61 := Try.zeroValue126
  t67 := Try.underlying134
  a67 := Try.isAgg134
  z67 := Try.sizeOf134
  v67 := Try.zeroValue134
  t69 := Try.underlying113
  a69 := Try.isAgg113
  z69 := Try.sizeOf113
  v69 := Try.zeroValue113
  t75 := Try.underlying140
  a75 := Try.isAgg140
  z75 := Try.sizeOf140
  v75 := Try.zeroValue140
  t79 := Try.underlying144
  a79 := Try.isAgg144
  z79 := Try.sizeOf144
  v79 := Try.zeroValue144
  t83 := Try.underlying148
  a83 := Try.isAgg148
  z83 := Try.sizeOf148
  v83 := Try.zeroValue148
  t84 := Try.underlying149
  a84 := Try.isAgg149
  z84 := Try.sizeOf149
  v84 := Try.zeroValue149 }
def sortI (T : List Int) : List Int := T.mergeSort fun x y => decide (x ≤ y)
theorem sortI_len (T : List Int) : (sortI T).length = T.length := List.length_mergeSort T
theorem slicesSort_any {lo hi : Nat} (v : Value) (T : List Int) (w : World) (ho : OwnI w lo hi v T) (hT : T.length ≤ 1048576) :
    Calls Try.prog 77 #[v] w fun e w' => e = .returned (.tuple #[]) ∧ OwnI w' lo w'.heap.size v (sortI T) ∧ ∀ B w0, B ≤ lo → Below B w0 w → Below B w0 w' := by
  have hr : ∀ x ∈ sortI T, I64 x := fun x hx => ho.rng x ((List.mem_mergeSort).1 hx)
  rcases ho.rowOf with ⟨rfl, rfl⟩ | ⟨g, cap, rfl, hg, h1, h2, hrow⟩
  · refine Calls.mono (AnyG.slices_Sort_int_none laySort none 0 w) ?_
    rintro e w' ⟨rfl, rfl⟩
    exact ⟨rfl, by simpa [sortI] using OwnI.nil _ _ _ (Nat.le_refl _), fun B w0 _ h => h⟩
  · obtain ⟨cur, k1, k2, k3, k4⟩ := rowI_block hrow
    have hH : Go.Sort.Holds (Value.int .i64) w g 0 T.toArray := fun j hj => by
      have hj' : j < T.length := by simpa using hj
      refine ⟨?_, by rw [Nat.zero_add]; exact hrow.frozen j⟩
      rw [Nat.zero_add, hrow.cell hj']
      simp [List.getD, getElem!_pos, hj']
    refine Calls.mono (AnyG.slices_Sort_int laySort g 0 cap T w hH hrow.lt (by omega)) ?_
    rintro e w' ⟨rfl, n, os, rfl⟩
    have hown := ownsRow_sortedI (n := n) (os := os) (ts := sortI T) (sortI_len T) hrow.ge k1 k2 k3 (by simpa using k4)
    have hR : RowI _ lo g T.length cap (sortI T) := ⟨⟨hown⟩⟩
    refine ⟨rfl, ?_, fun B w0 hB hb => hb.grown (grownBy_sortedI _) (Nat.le_of_lt (Nat.lt_of_le_of_lt (Nat.le_trans hB hrow.ge) hrow.lt)) (fun j hj => by cases hj; exact Nat.le_trans hB hrow.ge)⟩
    exact hR.own hr (by omega) hR.lt (Nat.le_refl _)
end Go.Proofs.Ytcodlhogpmhdlaa
