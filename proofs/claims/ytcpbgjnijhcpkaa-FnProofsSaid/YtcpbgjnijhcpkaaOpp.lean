/-
  The opposites of literals: contract in the program.
-/
import Derived.Test.YtcpbgjnijhcpkaaApp
namespace Go.Proofs.Ytcpbgjnijhcpkaa
open Go.RowKit
set_option linter.unusedVariables false
set_option maxRecDepth 100000

def negs (c : List Int) : List Int := c.map fun x => -x
theorem negs_len (c : List Int) : (negs c).length = c.length := List.length_map ..
set_option maxHeartbeats 800000 in
set_option maxRecDepth 100000 in
theorem opposites_any {l h : Nat} (v : Value) (c : List Int) (w : World) (hv : Ints w l h v c) (hh : h ≤ w.heap.size) (hr : ∀ x ∈ c, -10 ≤ x ∧ x ≤ 10) (hz : c.length ≤ 1048576) :
    Calls Try.prog 58 #[v] w fun e w' => ∃ u, e = .returned u ∧ OwnI w' w.heap.size w'.heap.size u (negs c) ∧ Below w.heap.size w w' := by
  obtain ⟨a, cap, rfl, hc1, hc2, hd⟩ := hv.out
  have HR := Lib.hid hr
  clear hv hr
  go_enter Try.func58, Try.ntmps58
  go_wp2_with fail
  go_loopw [3, 8] (fun ov i wr => ∃ k : Nat, k ≤ c.length ∧ i = .int .i64 k ∧ OwnI wr w.heap.size wr.heap.size ov (negs (c.take k)) ∧ Below w.heap.size w wr) (fun _ i _ => c.length - (intOf i).toNat)
  case atStart => exact ⟨0, Nat.zero_le _, rfl, OwnI.nil _ _ _ (Nat.le_refl _), Below.refl _ _⟩
  case round =>
    obtain ⟨k, hk, rfl, ho, hb⟩ := hrel
    have hs := hb.size
    have HO := Lib.hid ho
    have HB := Lib.hid hb
    clear ho
    by_cases hlt : k < c.length
    · rcases hd with rfl | ⟨b, off, rfl, hb1, hb2, hb3, hcell⟩
      · simp at hlt
      have hck := hcell k hlt
      have hge : c.getD k 0 = c[k] := by simp [List.getD, hlt]
      rw [hge, ← hb.cell (p := ⟨b, off + k, none⟩) (show b < w.heap.size by omega)] at hck
      have HT : Hid (negs (c.take (k + 1)) = negs (c.take k) ++ [-c[k]]) := by rw [Hid, List.take_succ_eq_append_getElem hlt, negs, List.map_append]; rfl
      have hxr := HR.out c[k] (List.getElem_mem hlt)
      obtain ⟨x, hx⟩ : ∃ x, x = c[k] := ⟨_, rfl⟩
      rw [← hx] at hck HT hxr
      have hx1 := hxr.1
      have hx2 := hxr.2
      have HLN : Hid ((negs (c.take k)).length + 1 ≤ 1099511627776) := by rw [Hid, negs_len, List.length_take]; omega
      clear hcell hge hx hxr hb
      go_wp2_with (at_builtin; refine wpList_app1 rfl _ _ rfl _ (negs (c.take k)) rfl (-x) _ HO.out rfl (by unfold I64; omega) HLN.out hs ?_)
      intro v2 w3 ho2 hsm hz3 _
      have HO2 : Hid (OwnI w3 w.heap.size w3.heap.size v2 (negs (c.take (k + 1)))) := by rw [Hid, HT.out]; exact ho2
      have HB2 := Lib.hid (HB.out.trans (hsm.below (Nat.le_refl _) hs))
      clear ho2
      go_wp2
      go_roundw
      case rel => exact ⟨k + 1, by omega, by go_num, HO2.out, HB2.out⟩
      case measure => simp [intOf]; omega
    · obtain rfl : k = c.length := by omega
      rw [List.take_length] at HO
      go_wp2
      go_ret
      exact ⟨_, rfl, HO.out, HB.out⟩
end Go.Proofs.Ytcpbgjnijhcpkaa
