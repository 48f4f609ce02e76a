/-
  The program's eachValues tells all values of letters to a function: its contract, by an invariant of the function that it calls.
-/
import Derived.Test.YtcpbgjnijhcpkaaHold
namespace Go.Proofs.Ytcpbgjnijhcpkaa
open Go.RowKit
set_option linter.unusedVariables false
set_option maxRecDepth 100000

theorem shl_one (L : Nat) (h : L ≤ 10) : IntKind.i64.wrap ((2 : Int) ^ L) = ((2 ^ L : Nat) : Int) ∧ 2 ^ L ≤ 1024 := by
  have h1 : 2 ^ L ≤ 2 ^ 10 := Nat.pow_le_pow_right (by decide) h
  have e : ((2 : Int) ^ L) = ((2 ^ L : Nat) : Int) := by simp
  refine ⟨?_, by omega⟩
  have h2 : 0 < 2 ^ L := Nat.pow_pos (by decide)
  rw [e]
  generalize 2 ^ L = q at *
  exact IntWalk.i64_in _ (by omega)
set_option maxHeartbeats 3200000 in
set_option maxRecDepth 100000 in
theorem eachValues_any (L : Nat) (hL : L ≤ 10) (F : FuncId) (hF : ∀ args wx, (callFunc F args).run Try.prog wx = .ok (.enter F args) wx) (cap : Array Value) (w : World) (Inv : Nat → World → Prop) (Post : World → Prop) (h0 : Inv 0 w)
    (hkeep : ∀ n wr wr', w.heap.size ≤ wr.heap.size → Inv n wr → Below wr.heap.size wr wr' → Inv n wr')
    (hstep : ∀ n wr v lo, n < 2 ^ L → w.heap.size ≤ lo → Inv n wr → OwnB wr lo wr.heap.size v (valuesN L n) →
      Calls Try.prog F (#[v] ++ cap) wr fun e w' => wr.heap.size ≤ w'.heap.size ∧ ((e = .returned (.bool true) ∧ Inv (n + 1) w') ∨ (e = .returned (.bool false) ∧ Post w')))
    (hend : ∀ wr, w.heap.size ≤ wr.heap.size → Inv (2 ^ L) wr → Post wr) :
    Calls Try.prog 75 #[.int .i64 L, .func (.func F) #[] cap] w fun e w' => e = .returned (.tuple #[]) ∧ w.heap.size ≤ w'.heap.size ∧ Post w' := by
  obtain ⟨i0, hi, hz0, hz1, hz2⟩ := info_parts info_bool
  have HK := Lib.hid hkeep
  have HS := Lib.hid hstep
  have HE := Lib.hid hend
  have H0 := Lib.hid h0
  clear hkeep hstep hend h0
  obtain ⟨N, hN⟩ : ∃ N : Nat, N = 2 ^ L := ⟨_, rfl⟩
  have hsh := (shl_one L hL).1
  have hN2 := (shl_one L hL).2
  rw [← hN] at hsh hN2
  have HN := Lib.hid hN
  clear hN
  go_enter Try.func75, Try.ntmps75
  go_wp2_with fail
  go_loopw [4] (fun i wr => ∃ n : Nat, n ≤ N ∧ i = .int .i64 n ∧ Hid (Inv n wr) ∧ w.heap.size ≤ wr.heap.size) (fun i _ => N - (intOf i).toNat)
  case atStart => exact ⟨0, Nat.zero_le _, rfl, H0, Nat.le_refl _⟩
  case round =>
    obtain ⟨n, hn, rfl, HI, hs⟩ := hrel
    by_cases hlt : n < N
    · go_wp2_with (refine wpList_make_full _ rfl _ _ 40 rfl wr.heap.size 4 i0 (.bool false) 1 Try.underlying40 hi hz0 hz1 .i64 .i64 _ _ L rfl rfl rfl rfl ?c1 (by unfold maxLen; omega) ?c2 ?_)
      case c1 => rw [hz2]; omega
      case c2 => exact Nat.le_refl _
      intro w1 hown hg
      have hrow0 : RowB w1 wr.heap.size wr.heap.size L L (List.replicate L false) := RowB.made hown
      have hb0 : Below wr.heap.size wr w1 := (Below.refl _ _).grown hg (Nat.le_refl _) (fun k hk => by cases hk)
      clear hown hg
      obtain ⟨wu, hwu⟩ : ∃ wu : World, wu = wr := ⟨_, rfl⟩
      rw [← hwu] at HI hs hrow0 hb0
      rw [← hwu]
      clear hwu
      go_wp2_with fail
      go_loopw [17] (fun i wr => ∃ (k : Nat) (B : List Bool), k ≤ L ∧ i = .int .i64 k ∧ Hid (∀ j : Nat, j < k → B.getD j false = bitN n (L - 1 - j)) ∧ RowB wr wu.heap.size wu.heap.size L L B ∧ Below wu.heap.size wu wr) (fun i _ => L - (intOf i).toNat)
      case atStart => exact ⟨0, _, Nat.zero_le _, rfl, Lib.hid (fun j hj => by omega), hrow0, hb0⟩
      case round =>
        clear hrow0 hb0
        obtain ⟨k, B, hk, rfl, HB, hrow, hb⟩ := hrel
        by_cases hkl : k < L
        · have hBk := hrow.cell hkl
          have hfk := hrow.frozen k
          have hbt := Lib.hid (bits_and_one n (L - 1 - k) (by omega))
          go_wp2_with fail
          go_roundw
          case rel =>
            refine ⟨k + 1, _, by omega, by go_num, Lib.hid ?_, hrow.stored k _, hb.setCell (Nat.le_refl _) _⟩
            intro j hj
            have hL' := hrow.length
            by_cases e : j = k
            · subst e
              rw [hbt.out]
              simp only [List.getD, List.getElem?_set_self (show j < B.length by omega), Option.getD_some]
              cases bitN n (L - 1 - j) <;> rfl
            · rw [← HB.out j (by omega)]
              simp only [List.getD, List.getElem?_set_ne (show k ≠ j by omega)]
          case measure => simp [intOf]; omega
        · obtain rfl : k = L := by omega
          have hsz := hb.size
          have hown : OwnB wr wu.heap.size wr.heap.size (.slice (some ⟨wu.heap.size, 0, none⟩) k k) (valuesN k n) := by
            have e : B = valuesN k n := by
              apply List.ext_getElem
              · rw [hrow.length, valuesN_len]
              · intro j h1 h2
                rw [hrow.length] at h1
                have := HB.out j h1
                simp only [List.getD, List.getElem?_eq_getElem (show j < B.length by rw [hrow.length]; exact h1), Option.getD_some] at this
                rw [this]; simp [valuesN]
            rw [← e]
            exact hrow.own (by omega) hrow.lt (Nat.le_refl _)
          have hI := HK.out n wu wr hs HI.out hb
          have hn2 : n < 2 ^ k := by have := HN.out; omega
          have hc := Lib.hid (HS.out n wr _ _ hn2 hs hI hown)
          clear hI hn2 hown
          go_wp2_with fail
          refine hc.out.mono ?_
          rintro e w2 ⟨hz, ⟨rfl, hi2⟩ | ⟨rfl, hp2⟩⟩
          · go_wp2
            go_roundw
            case rel => exact ⟨n + 1, by omega, by go_num, Lib.hid hi2, by omega⟩
            case measure => simp [intOf]; omega
          · go_wp2
            try simp only [Exit.inBlock, Exit.then]
            refine bodyPost_ret (results_none rfl _ _ _) rfl ?_
            exact ⟨rfl, by omega, hp2⟩
    · go_wp2
      first | go_ret2 | go_end0
      refine ⟨rfl, hs, HE.out wr hs ?_⟩
      have e : n = 2 ^ L := by have := HN.out; omega
      rw [← e]; exact HI.out
end Go.Proofs.Ytcpbgjnijhcpkaa
