/-
  byLetter: a copy of literals in order of their letters.
-/
import Derived.Test.YtcpbgjnijhcpkaaSortD
import Derived.Test.YtcpbgjnijhcpkaaCopy
namespace Go.Proofs.Ytcpbgjnijhcpkaa
open Go.RowKit
set_option linter.unusedVariables false
set_option maxRecDepth 100000

def cmpL (a b : Int) : Int := cmpI (absI a) (absI b)
theorem ltOf_cmpL : ltOf cmpL = ltL := by
  funext x y
  rw [ltOf, cmpL, cmpI_lt, ltL]
set_option maxHeartbeats 800000 in
set_option maxRecDepth 100000 in
theorem byLetterCmp_any (a b : Int) (ha : -10 ≤ a ∧ a < 11) (hb : -10 ≤ b ∧ b < 11) (w : World) :
    Calls Try.prog 112 #[.int .i64 a, .int .i64 b] w fun e w' => e = .returned (.int .i64 (cmpL a b)) ∧ Drew w w' := by
  obtain ⟨ha1, ha2⟩ := ha
  obtain ⟨hb1, hb2⟩ := hb
  have HL := Lib.hid (letterOf_any a (by omega) (by omega) w)
  have HM := Lib.hid (letterOf_any b (by omega) (by omega) w)
  go_enter Try.func112, Try.ntmps112
  go_wp2_with fail
  refine HL.out.mono ?_
  rintro e w' ⟨rfl, rfl⟩
  go_wp2_with fail
  refine HM.out.mono ?_
  rintro e w' ⟨rfl, rfl⟩
  go_wp2_with fail
  refine (compare_any _ _ _).mono ?_
  rintro e w' ⟨rfl, rfl⟩
  go_wp2
  go_ret
  exact ⟨rfl, Drew.refl _⟩
theorem insUp_i64 {zs : List Int} (h : ∀ x ∈ zs, -10 ≤ x ∧ x ≤ 10) : ∀ x ∈ insUp ltL zs.length zs, I64 x := fun x hx => by
  have := h x ((insUp_perm ltL zs _ (Nat.le_refl _)).mem_iff.1 hx)
  unfold I64; omega
set_option maxHeartbeats 1600000 in
set_option maxRecDepth 100000 in
theorem byLetter_any {l h : Nat} (v : Value) (zs : List Int) (w : World) (hv : Ints w l h v zs) (hh : h ≤ w.heap.size) (hr : ∀ x ∈ zs, -10 ≤ x ∧ x ≤ 10) (hz : zs.length ≤ 19) :
    Calls Try.prog 67 #[v] w fun e w' => ∃ u, e = .returned u ∧ OwnI w' w.heap.size w'.heap.size u (insUp ltL zs.length zs) ∧ Below w.heap.size w w' := by
  have HC := Lib.hid (copyInts_any v zs w hv hh (by omega))
  have HR := Lib.hid hr
  clear hv hr
  go_enter Try.func67, Try.ntmps67
  go_wp2_with fail
  refine HC.out.mono ?_
  rintro e w1 ⟨u, rfl, ho, hb⟩
  have HB := Lib.hid hb
  have hs := hb.size
  rcases ho.rowOf with ⟨rfl, rfl⟩ | ⟨g, cp, rfl, hg1, hg2, hg3, hrow⟩
  · clear ho
    go_wp2_with fail
    refine (sortStableNil_any _ _ _).mono ?_
    rintro e w2 ⟨rfl, rfl⟩
    go_wp2
    go_ret
    exact ⟨_, rfl, OwnI.nil _ _ _ (Nat.le_refl _), HB.out⟩
  · have HS := Lib.hid (sortStableD_any 112 (fun _ _ => by kernel_rfl) #[] cmpL (dl := -10) (dh := 11) zs w1 hrow (fun x hx => by have := HR.out x hx; omega) (by omega) hg2 hg3 (fun wx _ a b h1 h2 h3 h4 => by
      have := byLetterCmp_any a b ⟨h1, h2⟩ ⟨h3, h4⟩ wx
      simpa using this))
    rw [ltOf_cmpL] at HS
    have hgl := hrow.ge
    have hgt := hrow.lt
    clear ho hrow
    go_wp2_with fail
    refine HS.out.mono ?_
    rintro e w2 ⟨rfl, hr2, hs2⟩
    have HR2 := Lib.hid hr2
    have HB2 := Lib.hid (HB.out.trans (hs2.below hgl hs))
    clear hr2 hs2 hb
    go_wp2
    go_ret
    exact ⟨_, rfl, by have h1 := HR2.out.own (insUp_i64 HR.out) (by omega) HR2.out.lt (Nat.le_refl _); exact h1, HB2.out⟩
end Go.Proofs.Ytcpbgjnijhcpkaa
