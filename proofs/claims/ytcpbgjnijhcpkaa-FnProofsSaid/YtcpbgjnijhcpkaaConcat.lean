/-
  Contracts of slices.Grow (of nil) and slices.Concat at slices of integers.
-/
import Derived.Test.YtcpbgjnijhcpkaaApp
import Derived.Test.YtcpbgjnijhcpkaaIntss
import Derived.OwnWalk
namespace Go.Proofs.Ytcpbgjnijhcpkaa
open Go.RowKit
set_option linter.unusedVariables false
set_option maxRecDepth 100000

theorem alloc_belowW (w : World) (o : Obj) : Below w.heap.size w (w.alloc o) := (Below.refl _ _).alloc (Nat.le_refl _) o
theorem run_append_nil_make (w : World) (t ti e : TypeId) (i : TypeInfo) (z : Value) (ht : Try.prog.underlying t = some (.slice e)) (hti : Try.prog.underlying ti = some (.int .i64)) (hi : Try.prog.info? e = some i) (hz : i.zero = some z)
    (hsz : i.size = 1) (hby : i.bytes = 8) (hzc : z.cells = #[z]) (n : Nat) (h0 : 0 < n) (h1 : n ≤ 1048576) :
    ∃ cur : Array Value, ∃ cap : Nat, n ≤ cap ∧ cap ≤ maxLen ∧ cur.size = cap * 1 ∧ ∀ ty, (Builtin.append_ #[t, ti] ty #[.slice none 0 0, .int .i64 n]).run Try.prog w = .ok (.slice (some ⟨w.heap.size, 0, none⟩) n cap) (w.drew.alloc (.cells cur e)) := by
  have hg1 := grownCap_ge w n 0 e
  have hg2 := grownCap_le_maxLen w n 0 e (by unfold maxLen; omega)
  have hw : IntKind.i64.wrap (n : Int) = n := IntWalk.i64_in _ (by omega)
  have hn : n ≠ 0 := by omega
  have h63' : ¬ (9223372036854775807 < (n : Int)) := by omega
  have hneg : ¬ ((n : Int) < 0) := by omega
  have h48 : ¬ (281474976710656 < (n : Int) * 8) := by omega
  have h48' : ¬ (281474976710656 < Builtin.nextslicecap n 0 * 8) := by rw [nextslicecap_zero h0]; omega
  have ha : ∀ w', Sem.run Try.prog (asInt (.int .i64 (n : Int))) w' = .ok (n : Int) w' := fun _ => rfl
  refine ⟨Builtin.zeroCells z.cells n ++ Builtin.zeroCells z.cells (grownCap w n 0 e - n), grownCap w n 0 e, hg1, hg2, ?_, fun ty => ?_⟩
  · simp only [Array.size_append, size_zeroCells, hzc]
    show n * 1 + (grownCap w n 0 e - n) * 1 = _
    omega
  · simp [Builtin.append_, run_underlying ht, run_underlying hti, sizeOf, typeInfo, zeroValue, hi, hz, hsz, hby, ha, hw, hn, hneg, h48, h48', h63', Question.forced, run_firstCells_none, newRow, grownCap]
theorem wpList_appRun {w w' : World} {ops : Array Oper} {rest : List Oper} {o : Oper} {a : Act} {Q : Exit → Act → World → Prop} (hgd : o.guard = none) (s x : Operand) (t ti : TypeId)
    (ho : o.op = .call { callee := .builtin .append, args := #[s, x], argTypes := #[t, ti] }) {v u v' : Value} (hs : a.eval s = v) (hx : a.eval x = u)
    (hrun : ∀ ty, (Builtin.append_ #[t, ti] ty #[v, u]).run Try.prog w = .ok v' w') (h : wpList Try.prog ops Q rest (a.put o.dst v') w') : wpList Try.prog ops Q (o :: rest) a w := by
  refine wpList_plain hgd fun K hK => ?_
  unfold Oper.wp
  simp only [execOp, ho, resolve, invoke, builtin, Sem.run_bind, Sem.run_pure, Result.andThen_ok, List.map_toArray, List.map_cons, List.map_nil, hs, hx, hrun]
  exact hK _ _ h
theorem add_plain' (b off i : Nat) : (⟨b, off, none⟩ : Addr).add i = ⟨b, off + i, none⟩ := by unfold Addr.add; split <;> simp_all
theorem run_append_empty (w : World) (g : Option Addr) (n cap : Nat) (hn : n ≤ cap) (a : Option Addr) (c : Nat) (ty : TypeId) :
    (Builtin.append_ #[34, 34] ty #[.slice g n cap, .slice a 0 c]).run Try.prog w = .ok (.slice g n cap) w := by
  obtain ⟨i0, hi0, hz0, hz1, hz2⟩ := info_parts info_i64
  have hf : ∀ w', Sem.run Try.prog (Builtin.firstCells 1 0 (.slice a 0 c)) w' = .ok #[] w' := by
    intro w'
    cases a <;> simp [Builtin.firstCells, loadCells, loadCellsFrom]
  cases g <;> simp [Builtin.append_, run_underlying Try.underlying34, sizeOf, typeInfo, hi0, hz1, Builtin.lenOf, hn, hf, storeCells]
set_option maxHeartbeats 800000 in
set_option maxRecDepth 100000 in
theorem growNil_any (n : Nat) (w : World) (hn : n ≤ 1048576) :
    Calls Try.prog 121 #[.slice none 0 0, .int .i64 n] w fun e w' => ∃ v, e = .returned v ∧ OwnI w' w.heap.size w'.heap.size v [] ∧ Below w.heap.size w w' := by
  by_cases h0 : 0 < n
  · obtain ⟨i0, hi0, hz0, hz1, hz2⟩ := info_parts info_i64
    obtain ⟨cur, cap, hc1, hc2, hc3, hrun⟩ := run_append_nil_make w 34 3 2 i0 (.int .i64 0) Try.underlying34 Try.underlying3 hi0 hz0 hz1 hz2 rfl n h0 hn
    have hc2' : cap ≤ 9223372036854775807 := by simpa [maxLen] using hc2
    have hown : OwnI (w.drew.alloc (.cells cur 2)) w.heap.size (w.drew.alloc (.cells cur 2)).heap.size (.slice (some ⟨w.heap.size, 0, none⟩) 0 cap) [] :=
      ⟨⟨World.ownsRow_made w.drew cur cap (Nat.le_refl _) hc2 hc3, fun k e => by simp [Value.ownBlock] at e; subst e; simp, Nat.le_refl _⟩, by simp, by simp⟩
    have hbel : Below w.heap.size w (w.drew.alloc (.cells cur 2)) := ((show Drew w w.drew from ⟨1, rfl⟩).below _).trans (alloc_belowW w.drew _)
    have HO := Lib.hid hown
    have HB := Lib.hid hbel
    clear hown hbel
    go_enter Try.func121, Try.ntmps121
    have HR := Lib.hid hrun
    clear hrun
    go_wp2_with (at_builtin; refine wpList_appRun rfl _ _ 34 3 rfl rfl rfl HR.out ?_)
    go_ret
    exact ⟨_, rfl, HO.out, HB.out⟩
  · obtain rfl : n = 0 := by omega
    go_enter Try.func121, Try.ntmps121
    go_wp2
    go_ret
    exact ⟨_, rfl, OwnI.nil _ _ _ (Nat.le_refl _), Below.refl _ _⟩
theorem flat_take (cs : List (List Int)) (k : Nat) (h : k < cs.length) : (cs.take (k + 1)).flatten = (cs.take k).flatten ++ cs[k] := by
  rw [List.take_succ_eq_append_getElem h, List.flatten_append]; simp
theorem flat_len (cs : List (List Int)) (k : Nat) : ((cs.take k).flatten).length = offs cs k := by unfold offs; rw [List.length_flatten]
set_option maxHeartbeats 1600000 in
set_option maxRecDepth 100000 in
theorem concat_any {l h : Nat} (v : Value) (cs : List (List Int)) (w : World) (hv : Intss w l h v cs) (hh : h ≤ w.heap.size) (hz : SmallII cs) :
    Calls Try.prog 105 #[v] w fun e w' => ∃ u, e = .returned u ∧ OwnI w' w.heap.size w'.heap.size u cs.flatten ∧ Below w.heap.size w w' := by
  obtain ⟨a, cap, V, rfl, hc1, hc2, hV, hd⟩ := hv.out
  have HV := Lib.hid hV
  have HZ := Lib.hid hz
  have HSum : Hid ((cs.map List.length).sum ≤ 1048576) := hz.2
  clear hV hz hv
  go_enter Try.func105, Try.ntmps105
  go_wp2_with fail
  go_loop [3, 11] (fun s i => ∃ k : Nat, k ≤ cs.length ∧ i = .int .i64 k ∧ s = .int .i64 (offs cs k : Nat)) (fun _ i => cs.length - (intOf i).toNat)
  case atStart => exact ⟨0, Nat.zero_le _, rfl, by simp [offs]⟩
  case round =>
    obtain ⟨k, hk, rfl, rfl⟩ := hrel
    by_cases hlt : k < cs.length
    · have ho := offs_succ cs k hlt
      have hl := offs_le cs (k + 1)
      have hs := HSum.out
      obtain ⟨ra, rc, hre, _, _, _⟩ := (HV.out k hlt).out
      rcases hd with hd | ⟨b, off, rfl, hb1, hb2, hb3, hcell⟩
      · rw [hd] at hlt; simp at hlt
      have hck := hcell k hlt
      rw [hre] at hck
      have hnn : ¬ ((offs cs k : Int) + (cs[k].length : Int) < 0) := by omega
      clear hre
      have Ho := Lib.hid ho
      have hb : offs cs k + cs[k].length ≤ 1048576 := by omega
      clear hcell ho hl hs
      go_wp2
      go_round
      case rel => exact ⟨k + 1, by omega, by go_num, by rw [Ho.out]; first | go_num | (congr 1; omega)⟩
      case measure => simp [intOf]; omega
    · obtain rfl : k = cs.length := by omega
      have HS2 : Hid (offs cs cs.length ≤ 1048576) := by rw [Hid, offs_all]; exact HSum.out
      generalize offs cs cs.length = sm at *
      go_wp2_with fail
      refine (growNil_any sm w HS2.out).mono ?_
      rintro e w2 ⟨g, rfl, hg, hb2⟩
      have HG := Lib.hid hg
      clear hg
      go_wp2_with fail
      go_loopw [6, 27] (fun g i wr => ∃ k : Nat, k ≤ cs.length ∧ i = .int .i64 k ∧ OwnI wr w.heap.size wr.heap.size g (cs.take k).flatten ∧ Below w.heap.size w wr) (fun _ i _ => cs.length - (intOf i).toNat)
      case atStart => exact ⟨0, Nat.zero_le _, rfl, by simpa using HG.out, hb2⟩
      case round =>
        obtain ⟨k, hk, rfl, ho, hb⟩ := hrel
        have hs3 := hb.size
        have HO := Lib.hid ho
        have hlen := flat_len cs k
        by_cases hlt : k < cs.length
        · have hx := (HV.out k hlt).below hb hh
          have hr : ∀ y ∈ cs[k], I64 y := hx.rng
          have HX := Lib.hid hx
          have HR := Lib.hid hr
          obtain ⟨ra, rc, hre, hr1, hr2, hrd⟩ := hx.out
          rcases hd with hd | ⟨b, off, rfl, hb1, hbb2, hbb3, hcell⟩
          · rw [hd] at hlt; simp at hlt
          have hck := hcell k hlt
          rw [← hb.cell (p := ⟨b, off + k, none⟩) (show b < w.heap.size by omega)] at hck
          rw [hre] at hck
          have hle := offs_le cs (k + 1)
          have hos := offs_succ cs k hlt
          have hsum := HSum.out
          have hlen2 : ((cs.take k).flatten).length + cs[k].length ≤ 1048576 := by omega
          have HF := Lib.hid (flat_take cs k hlt)
          clear hcell hle hos hsum hlen hx hr hre
          by_cases h0 : 0 < cs[k].length
          · rcases hrd with hrd | ⟨rb, ro, rfl, rb1, rb2, rb3, rcell⟩
            · rw [hrd] at h0; simp at h0
            have HRC : Hid (∀ j, j < cs[k].length → wr.cell? ((⟨rb, ro, none⟩ : Addr).add j) = some (.int .i64 (cs[k].getD j 0))) := fun j hj => by
              rw [add_plain']; have := rcell j hj; simpa [List.getD, hj] using this
            clear rcell
            go_wp2_with (at_builtin; refine wpList_appI rfl _ _ rfl _ _ rfl HO.out cs[k] ⟨rb, ro, none⟩ rc rfl h0 HR.out HRC.out (by omega) hs3 ?_)
            intro v2 w3 ho2 hsm hz3 _
            have ho3 : Hid (OwnI w3 w.heap.size w3.heap.size v2 (cs.take (k + 1)).flatten) := by rw [Hid, HF.out]; exact ho2
            clear ho2
            go_wp2
            go_roundw
            case rel => exact ⟨k + 1, by omega, by go_num, ho3.out, hb.trans (hsm.below (Nat.le_refl _) hs3)⟩
            case measure => simp [intOf]; omega
          · have hz0 : cs[k].length = 0 := by omega
            have HN : Hid ((cs.take (k + 1)).flatten = (cs.take k).flatten) := by rw [Hid, HF.out, List.eq_nil_of_length_eq_zero hz0, List.append_nil]
            obtain ⟨oa, oc, oe, oh, _, _⟩ := HO.out.rd.out
            rw [hz0] at hck
            generalize (cs.take k).flatten.length = M at oe oh
            have HR0 := Lib.hid (run_append_empty wr oa M oc oh ra rc)
            have HOE := Lib.hid oe
            rw [oe]
            clear oe hz0 h0 oh
            go_wp2_with (at_builtin; refine wpList_appRun rfl _ _ 34 34 rfl rfl rfl HR0.out ?_)
            go_roundw
            case rel => exact ⟨k + 1, by omega, by go_num, by rw [HN.out, ← HOE.out]; exact HO.out, hb⟩
            case measure => simp [intOf]; omega
        · obtain rfl : k = cs.length := by omega
          rw [List.take_length] at HO
          go_wp2
          go_ret
          exact ⟨_, rfl, HO.out, hb⟩
end Go.Proofs.Ytcpbgjnijhcpkaa
