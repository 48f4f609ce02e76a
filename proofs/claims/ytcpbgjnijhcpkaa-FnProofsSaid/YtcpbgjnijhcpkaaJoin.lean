/-
  Resolve: contracts in the reference.
-/
import Derived.Test.YtcpbgjnijhcpkaaJoinP
import Derived.Test.YtcpbgjnijhcpkaaKeepB
import Derived.IntWalk
namespace Go.Proofs.Ytcpbgjnijhcpkaa
open Go.RowKit
set_option linter.unusedVariables false
set_option maxRecDepth 100000

theorem ints_dropN {w : World} {lo hi b off n c : Nat} {zs : List Int} (h : Ints w lo hi (.slice (some ⟨b, off, none⟩) n c) zs) (k : Nat) (hk : k ≤ n) : Ints w lo hi (.slice (if c = k then some ⟨b, off, none⟩ else some ⟨b, off + k, none⟩) (n - k) (c - k)) (zs.drop k) := by
  obtain ⟨a', cap', e, h1, h2, h3⟩ := h.out
  simp only [Value.slice.injEq] at e
  obtain ⟨rfl, rfl, rfl⟩ := e
  have e : (zs.drop k).length = zs.length - k := List.length_drop
  refine ⟨⟨_, _, by rw [e], by omega, by omega, ?_⟩, fun n hn => h.rng n (List.mem_of_mem_drop hn)⟩
  rw [e]
  by_cases hck : c = k
  · exact .inl (by omega)
  rw [if_neg hck]
  rcases h3 with rfl | ⟨b', off', r1, r2, r3, r4, r5⟩
  · exact .inl (by simp)
  · injection r1 with r1
    injection r1 with r1 r6
    subst r1; subst r6
    refine .inr ⟨b, off + k, rfl, r2, r3, r4, fun i hi => ?_⟩
    rw [Nat.add_assoc, r5 (k + i) (by omega)]
    simp [List.getD]
set_option maxHeartbeats 2000000 in
set_option maxRecDepth 100000 in
theorem l05JoinF_any (w : World) {lo : Nat} (v : Value) (S : List Int) (x : Int) (ho : OwnI w lo w.heap.size v S) (hlo : lo ≤ w.heap.size) (hS : S.length ≤ 1000) (hr : ∀ y ∈ S, -10 ≤ y ∧ y ≤ 10) (hx1 : -10 ≤ x) (hx2 : x ≤ 10) :
    Calls Try.prog 70 #[v, .int .i64 x] w fun e w' => ∃ u, e = .returned (.tuple #[u, .bool (joinN S x).2]) ∧ OwnI w' lo w'.heap.size u (joinN S x).1 ∧ BlkOk w v u ∧ Below w.heap.size w w' := by
  have kx : I64 x := by unfold I64; omega
  have hb0 : Below w.heap.size w (w.alloc (.cells #[] 2)) := alloc_below _ _
  have H0 := Lib.hid (emptySlice w)
  have HB0 := Lib.hid hb0
  have HSZ : Hid ((w.alloc (.cells #[] 2)).heap.size = w.heap.size + 1) := by simp [Hid]
  rcases ho.rowOf with ⟨rfl, rfl⟩ | ⟨g, cap, rfl, hg1, hg2, hg3, hrow⟩
  · have HE : Hid (joinN [] x = ([x], true)) := rfl
    have hrn := Lib.hid (run_append_empty (w.alloc (.cells #[] 2)) (some ⟨w.heap.size, 0, none⟩) 0 0 (Nat.le_refl _) none 0)
    clear hb0 ho
    go_enter Try.func70, Try.ntmps70
    have HX0 : Hid (Ints (w.alloc (.cells #[] 2)) 0 0 (.slice none 0 0) []) := Ints.nil _ _ _
    have hlz : ¬ (0 : Int) < 0 := by omega
    go_wp2_with fail
    refine wp_loop_rounds 1 ?_
    rw [rounds_succ]
    go_wp2_with (at_builtin; refine wpList_appIs rfl _ _ rfl _ [] rfl H0.out _ [] rfl HX0.out (by simp) (by rw [HSZ.out]; omega) ?_)
    intro v3 w3 ho3 hsm3 hz3 _
    have HO3 : Hid (OwnI w3 w.heap.size w3.heap.size v3 []) := by simpa [Hid] using ho3
    have HB3 := Lib.hid (HB0.out.trans (hsm3.below (Nat.le_refl _) (by rw [HSZ.out]; omega)))
    have hs3 := HB3.out.size
    clear ho3 hsm3
    go_wp2_with (at_builtin; refine wpList_app1 rfl _ _ rfl _ [] rfl x _ HO3.out rfl kx (by simp) hs3 ?_)
    intro v4 w4 ho4 hsm4 hz4 _
    have HO4 := Lib.hid ho4
    have HB4 := Lib.hid (HB3.out.trans (hsm4.below (Nat.le_refl _) hs3))
    have hs4 := HB4.out.size
    have HX4 : Hid (Ints w4 0 0 (.slice none 0 0) []) := Ints.nil _ _ _
    clear ho4 hsm4
    go_wp2_with (at_builtin; refine wpList_appIs rfl _ _ rfl _ ([] ++ [x]) rfl HO4.out _ [] rfl HX4.out (by simp) hs4 ?_)
    intro v5 w5 ho5 hsm5 hz5 _
    have HO5 := Lib.hid ho5
    have HB5 := Lib.hid (HB4.out.trans (hsm5.below (Nat.le_refl _) hs4))
    clear ho5 hsm5
    go_wp2
    go_ret2
    exact ⟨_, by rw [HE.out]; rfl, by rw [HE.out]; exact HO5.out.mono hlo (Nat.le_refl _) (Nat.le_refl _), BlkOk.new HO5.out, HB5.out⟩
  · have hrd : Ints w lo w.heap.size (.slice (some ⟨g, 0, none⟩) S.length cap) S := ho.rd
    have HO := Lib.hid ho
    have HRD := Lib.hid hrd
    have HR := Lib.hid hr
    have HRW := Lib.hid hrow
    clear hb0 ho hrd hr
    go_enter Try.func70, Try.ntmps70
    go_wp2_with fail
    go_loop [6] (fun i => ∃ k : Nat, k ≤ S.length ∧ i = .int .i64 k ∧ Hid (∀ j, j < k → absI (S.getD j 0) < absI x)) (fun i => S.length - (intOf i).toNat)
    case atStart => exact ⟨0, Nat.zero_le _, rfl, fun j hj => by omega⟩
    case round =>
      obtain ⟨k, hk, rfl, H⟩ := hrel
      by_cases hlt : k < S.length
      · have hck := hrow.cell hlt
        obtain ⟨y, hy⟩ : ∃ y, y = S.getD k 0 := ⟨_, rfl⟩
        rw [← hy] at hck
        have hyr := HR.out _ (getD_mem hlt)
        rw [← hy] at hyr
        have hy1 := hyr.1
        have hy2 := hyr.2
        have HY := Lib.hid hy
        have HLY := Lib.hid (l05Letter_any y (by omega) (by omega) w)
        have HLX := Lib.hid (l05Letter_any x (by omega) (by omega) w)
        obtain ⟨ay, hay⟩ : ∃ z, z = absI y := ⟨_, rfl⟩
        obtain ⟨ax, hax⟩ : ∃ z, z = absI x := ⟨_, rfl⟩
        rw [← hay] at HLY
        rw [← hax] at HLX
        have HAY := Lib.hid hay
        have HAX := Lib.hid hax
        clear hy hyr hay hax
        by_cases hc : ay < ax
        · have hcd : decide (ay < ax) = true := by simpa using hc
          go_wp2_with fail
          refine HLY.out.mono ?_
          rintro e w' ⟨rfl, rfl⟩
          go_wp2_with fail
          refine HLX.out.mono ?_
          rintro e w' ⟨rfl, rfl⟩
          go_wp2
          go_round
          case rel => exact ⟨k + 1, by omega, by go_num, Lib.hid (fun j hj => by
            by_cases e : j = k
            · subst e; rw [← HY.out, ← HAY.out, ← HAX.out]; exact hc
            · exact H.out j (by omega))⟩
          case measure => simp [intOf]; omega
        · have hcd : decide (ay < ax) = false := by simpa using hc
          have HAT : Hid (joinAt x S = k) := joinAt_eq hk H.out (fun _ => by rw [← HY.out, ← HAY.out, ← HAX.out]; exact hc)
          by_cases he : ay = ax
          · have heb : (ay == ax) = true := by simpa using he
            have HE : Hid (joinN S x = (S, y == x)) := by
              rw [Hid, joinN, HAT.out, ← HY.out, ← HAY.out, ← HAX.out, if_pos ⟨hlt, he⟩]
            obtain ⟨t, ht⟩ : ∃ t, t = (y == x) := ⟨_, rfl⟩
            have ht' := ht.symm
            rw [← ht] at HE
            clear hc he ht
            go_wp2_with fail
            refine HLY.out.mono ?_
            rintro e w' ⟨rfl, rfl⟩
            go_wp2_with fail
            refine HLX.out.mono ?_
            rintro e w' ⟨rfl, rfl⟩
            go_wp2_with fail
            refine HLY.out.mono ?_
            rintro e w' ⟨rfl, rfl⟩
            go_wp2_with fail
            refine HLX.out.mono ?_
            rintro e w' ⟨rfl, rfl⟩
            go_wp2_with fail
            go_quiet (fail)
            go_wp2
            go_ret2
            exact ⟨_, by rw [HE.out]; rfl, by rw [HE.out]; exact HO.out.drewN _, .inl rfl, (Drew.one w _).below _⟩
          · have heb : (ay == ax) = false := by simpa using he
            have HE : Hid (joinN S x = (S.take k ++ [x] ++ S.drop k, true)) := by
              rw [Hid, joinN, HAT.out, ← HY.out, ← HAY.out, ← HAX.out, if_neg (fun h => he h.2)]
            clear hc he
            go_wp2_with fail
            refine HLY.out.mono ?_
            rintro e w' ⟨rfl, rfl⟩
            go_wp2_with fail
            refine HLX.out.mono ?_
            rintro e w' ⟨rfl, rfl⟩
            go_wp2_with fail
            refine HLY.out.mono ?_
            rintro e w' ⟨rfl, rfl⟩
            go_wp2_with fail
            refine HLX.out.mono ?_
            rintro e w' ⟨rfl, rfl⟩
            have HTK : Hid (Ints (w.alloc (.cells #[] 2)) lo w.heap.size (.slice (some ⟨g, 0, none⟩) k cap) (S.take k)) := (HRD.out.take (by omega)).below HB0.out (Nat.le_refl _)
            have HDP : Hid (Ints w lo w.heap.size (.slice (some ⟨g, k, none⟩) (S.length - k) (cap - k)) (S.drop k)) := by
              have h1 := ints_dropN HRD.out k (by omega)
              rw [Nat.zero_add, if_neg (by omega)] at h1
              exact h1
            have hq1 : k ≤ cap := by omega
            have hq2 : k ≤ S.length := by omega
            have HLT : Hid ((S.take k).length + (S.drop k).length ≤ 1000) := by rw [Hid, List.length_take, List.length_drop]; omega
            go_wp2_with (at_builtin; refine wpList_appIs rfl _ _ rfl _ [] rfl H0.out _ (S.take k) rfl HTK.out (by have := HLT.out; simp; omega) (by rw [HSZ.out]; omega) ?_)
            intro v3 w3 ho3 hsm3 hz3 _
            have HO3 : Hid (OwnI w3 w.heap.size w3.heap.size v3 (S.take k)) := by simpa [Hid] using ho3
            have HB3 := Lib.hid (HB0.out.trans (hsm3.below (Nat.le_refl _) (by rw [HSZ.out]; omega)))
            have hs3 := HB3.out.size
            clear ho3 hsm3
            go_wp2_with (at_builtin; refine wpList_app1 rfl _ _ rfl _ (S.take k) rfl x _ HO3.out rfl kx (by have := HLT.out; omega) hs3 ?_)
            intro v4 w4 ho4 hsm4 hz4 _
            have HO4 := Lib.hid ho4
            have HB4 := Lib.hid (HB3.out.trans (hsm4.below (Nat.le_refl _) hs3))
            have hs4 := HB4.out.size
            have HDP4 := Lib.hid (HDP.out.below HB4.out (Nat.le_refl _))
            clear ho4 hsm4
            go_wp2_with (at_builtin; refine wpList_appIs rfl _ _ rfl _ (S.take k ++ [x]) rfl HO4.out _ (S.drop k) rfl HDP4.out (by have := HLT.out; rw [List.length_append]; simp only [List.length_cons, List.length_nil]; omega) hs4 ?_)
            intro v5 w5 ho5 hsm5 hz5 _
            have HO5 : Hid (OwnI w5 w.heap.size w5.heap.size v5 (S.take k ++ [x] ++ S.drop k)) := by rw [Hid]; simpa using ho5
            have HB5 := Lib.hid (HB4.out.trans (hsm5.below (Nat.le_refl _) hs4))
            clear ho5 hsm5
            go_wp2
            go_ret2
            exact ⟨_, by rw [HE.out]; rfl, by rw [HE.out]; exact HO5.out.mono hlo (Nat.le_refl _) (Nat.le_refl _), BlkOk.new HO5.out, HB5.out⟩
      · obtain rfl : k = S.length := by omega
        have HAT : Hid (joinAt x S = S.length) := joinAt_eq (Nat.le_refl _) H.out (fun h => by omega)
        have HE : Hid (joinN S x = (S ++ [x] ++ [], true)) := by
          rw [Hid, joinN, HAT.out, if_neg (fun h => by have := h.1; omega), List.take_length, List.drop_length]
        have HTK : Hid (Ints (w.alloc (.cells #[] 2)) lo w.heap.size (.slice (some ⟨g, 0, none⟩) S.length cap) (S)) := HRD.out.below HB0.out (Nat.le_refl _)
        have HDP : Hid (Ints w lo w.heap.size (.slice (if cap = S.length then some ⟨g, 0, none⟩ else some ⟨g, S.length, none⟩) 0 (cap - S.length)) []) := ⟨⟨_, _, rfl, Nat.zero_le _, by omega, .inl rfl⟩, by simp⟩
        have hq1 : S.length ≤ cap := by omega
        have hq2 : S.length ≤ S.length := by omega
        have HLT : Hid ((S).length + ([] : List Int).length ≤ 1000) := by rw [Hid]; simp; omega
        obtain ⟨ra, hra⟩ : ∃ ra, (if cap = S.length then some (⟨g, 0, none⟩ : Addr) else some ⟨g, S.length, none⟩) = ra := ⟨_, rfl⟩
        rw [hra] at HDP
        go_wp2_with (at_builtin; refine wpList_appIs rfl _ _ rfl _ [] rfl H0.out _ (S) rfl HTK.out (by have := HLT.out; simp; omega) (by rw [HSZ.out]; omega) ?_)
        intro v3 w3 ho3 hsm3 hz3 _
        have HO3 : Hid (OwnI w3 w.heap.size w3.heap.size v3 (S)) := by simpa [Hid] using ho3
        have HB3 := Lib.hid (HB0.out.trans (hsm3.below (Nat.le_refl _) (by rw [HSZ.out]; omega)))
        have hs3 := HB3.out.size
        clear ho3 hsm3
        go_wp2_with (at_builtin; refine wpList_app1 rfl _ _ rfl _ (S) rfl x _ HO3.out rfl kx (by have := HLT.out; omega) hs3 ?_)
        intro v4 w4 ho4 hsm4 hz4 _
        have HO4 := Lib.hid ho4
        have HB4 := Lib.hid (HB3.out.trans (hsm4.below (Nat.le_refl _) hs3))
        have hs4 := HB4.out.size
        have HDP4 := Lib.hid (HDP.out.below HB4.out (Nat.le_refl _))
        clear ho4 hsm4
        go_wp2_with (at_builtin; refine wpList_appIs rfl _ _ rfl _ (S ++ [x]) rfl HO4.out _ ([]) rfl HDP4.out (by have := HLT.out; rw [List.length_append]; simp only [List.length_cons, List.length_nil]; omega) hs4 ?_)
        intro v5 w5 ho5 hsm5 hz5 _
        have HO5 : Hid (OwnI w5 w.heap.size w5.heap.size v5 (S ++ [x] ++ [])) := by rw [Hid]; simpa using ho5
        have HB5 := Lib.hid (HB4.out.trans (hsm5.below (Nat.le_refl _) hs4))
        clear ho5 hsm5
        go_wp2
        go_ret2
        exact ⟨_, by rw [HE.out]; rfl, by rw [HE.out]; exact HO5.out.mono hlo (Nat.le_refl _) (Nat.le_refl _), BlkOk.new HO5.out, HB5.out⟩
theorem l05Join_any (w : World) {lo : Nat} (v : Value) (S : List Int) (x : Int) (ho : OwnI w lo w.heap.size v S) (hlo : lo ≤ w.heap.size) (hS : S.length ≤ 1000) (hr : ∀ y ∈ S, -10 ≤ y ∧ y ≤ 10) (hx1 : -10 ≤ x) (hx2 : x ≤ 10) :
    Calls Try.prog 70 #[v, .int .i64 x] w fun e w' => ∃ u, e = .returned (.tuple #[u, .bool (joinN S x).2]) ∧ OwnI w' lo w'.heap.size u (joinN S x).1 ∧ Below w.heap.size w w' :=
  (l05JoinF_any w v S x ho hlo hS hr hx1 hx2).mono fun e w' ⟨u, h1, h2, _, h3⟩ => ⟨u, h1, h2, h3⟩
end Go.Proofs.Ytcpbgjnijhcpkaa
