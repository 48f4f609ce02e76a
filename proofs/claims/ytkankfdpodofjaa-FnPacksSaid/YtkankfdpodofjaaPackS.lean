/-
  FnPacks: the sizes that the reference draws, and what the law's own function says of a pack.
-/
import Derived.Test.YtkankfdpodofjaaPackV
import Derived.Test.YtkankfdpodofjaaWays
import Derived.Test.YtkankfdpodofjaaApp
import Derived.BigQuiet
import Derived.Deep.RegionHeld3
namespace Go.Proofs.Ytkankfdpodofjaa
open Go.RowKit
set_option linter.unusedVariables false
set_option maxRecDepth 100000

theorem Same.mono_oldP {lo hi q : Nat} {a w w' : World} (h : Same lo hi w w') (hq : q < lo) (hl : a.heap.size ≤ w.heap.size) (hlo : lo = a.heap.size) (ha : Same q (q + 1) a w) : Same q (q + 1) a w' :=
  ⟨h.os.trans ha.os, h.tape.trans ha.tape, h.output.trans ha.output, Nat.le_trans ha.size h.size, fun k hk hn => (h.block k (by omega) (by omega)).trans (ha.block k hk hn)⟩
set_option maxHeartbeats 1000000 in
set_option maxRecDepth 100000 in
theorem R8Sizes_any {l h n : Nat} (v : Value) (bs : List Int) (w : World) (hv : Byts w l h v bs) (hh : h ≤ w.heap.size) (h2 : n ≤ 10) :
    Calls Try.prog 14 #[v, .int .i64 n] w fun e w' => ∃ u zs, e = .returned u ∧ OwnI w' w.heap.size w'.heap.size u zs ∧ zs.length = n ∧ (∀ x ∈ zs, 1 ≤ x ∧ x ≤ 12) ∧ Below w.heap.size w w' := by
  have HF := Lib.hid (l00From_any v bs w hv hh)
  clear hv
  go_enter Try.func14, Try.ntmps14
  go_wp2_with fail
  refine HF.out.mono ?_
  rintro e w1 ⟨rfl, hs, hb⟩
  obtain ⟨q, hq⟩ : ∃ q, q = w.heap.size := ⟨_, rfl⟩
  rw [← hq] at hs
  rw [← hq]
  have hql := hs.lt
  have HB := Lib.hid hb
  have hz := hb.size
  have he0 := emptySlice w1
  obtain ⟨W, hW⟩ : ∃ X, X = w1.alloc (.cells #[] 2) := ⟨_, rfl⟩
  rw [← hW] at he0
  have HE0 : Hid (OwnI W w1.heap.size W.heap.size (.slice (some ⟨w1.heap.size, 0, none⟩) 0 0) []) := he0.mono (Nat.le_refl _) he0.own.hsz (Nat.le_refl _)
  have HS0 : Hid (Same q (q + 1) w1 W) := by rw [hW]; exact (Same.refl _ _ _).alloc _
  have HQ0 : Hid (SrcC W q 0) := by rw [hW]; exact hs.alloc _
  have hqw : w.heap.size ≤ q := by omega
  clear hs hb he0 hq
  go_wp2_with fail
  rw [← hW]
  clear hW
  go_loopw [1, 6] (fun iv ov wr => ∃ (i : Nat) (B : List Int), i ≤ n ∧ iv = .int .i64 i ∧ Hid (OwnI wr w1.heap.size wr.heap.size ov B) ∧ B.length + i = n ∧ Hid (∀ x ∈ B, 1 ≤ x ∧ x ≤ 12) ∧ Hid (SrcC wr q (n - i)) ∧ Hid (Same q (q + 1) w1 wr)) (fun iv _ _ => (intOf iv).toNat)
  case atStart => exact ⟨n, [], Nat.le_refl _, rfl, HE0, by simp, by simp [Hid], by rw [Nat.sub_self]; exact HQ0, HS0⟩
  case round =>
    clear HE0 HQ0 HS0
    obtain ⟨i, B, hi, rfl, HO, hbl, HBR, HQ, HS⟩ := hrel
    have hsr := HS.out.size
    by_cases hin : 0 < i
    · have hpk := Lib.hid (srcPick_any 12 wr HQ.out (by omega) (by omega) (by omega))
      go_wp2_with fail
      refine hpk.out.mono ?_
      rintro e w2 ⟨x, rfl, ⟨hx0, hx1⟩, hs2, hm2⟩
      have hz2 := hm2.size
      have HO2 := Lib.hid ((HO.out.same hm2 (.inr (by omega))).mono (Nat.le_refl _) hz2 (Nat.le_refl _))
      have HS2 := Lib.hid (HS.out.trans hm2)
      have HQ2 := Lib.hid hs2
      have hsr2 : w1.heap.size ≤ w2.heap.size := by omega
      have v0 : IntKind.i64.wrap (1 + x) = 1 + x := IntWalk.i64_in _ (by omega)
      clear hs2 hm2 hpk
      go_wp2_with (at_builtin; refine wpList_app1 rfl _ _ rfl _ B rfl (1 + x) _ HO2.out rfl (by constructor <;> omega) (by omega) hsr2 ?_)
      intro v3 w3 ho3 hsm3 hz3 hbk3
      have HS3 : Hid (Same q (q + 1) w1 w3) := hsm3.mono_oldP hql hsr2 rfl HS2.out
      have HQ3 := Lib.hid (HQ2.out.same hsm3 hql)
      have HO3 := Lib.hid ho3
      have HBR3 : Hid (∀ y ∈ B ++ [1 + x], 1 ≤ y ∧ y ≤ 12) := fun y hy => by
        rcases List.mem_append.1 hy with hy | hy
        · exact HBR.out y hy
        · rw [List.mem_singleton] at hy; omega
      have hnn : n - (i - 1) = n - i + 1 := by omega
      clear ho3 hsm3
      go_wp2
      go_roundw
      case rel => exact ⟨i - 1, B ++ [1 + x], by omega, by go_num, HO3, by simp; omega, HBR3, by rw [hnn]; exact HQ3, HS3⟩
      case measure => (simp [intOf]; try omega)
    · obtain rfl : i = 0 := by omega
      have HB1 := Lib.hid (HB.out.trans (HS.out.below (by omega) hz))
      go_wp2
      go_ret
      exact ⟨_, B, rfl, HO.out.mono hz (Nat.le_refl _) (Nat.le_refl _), by omega, HBR.out, HB1.out⟩
theorem PackL.step {n : Nat} {L : List Int} (h : PackL n L) {m : Nat} (hm : m + 1 < L.length) : L.getD m 0 < L.getD (m + 1) 0 := by
  have := (List.pairwise_iff_getElem.1 h.2) m (m + 1) (by omega) hm (by omega)
  simpa [List.getD, List.getElem?_eq_getElem hm, List.getElem?_eq_getElem (show m < L.length by omega)] using this
set_option maxHeartbeats 2000000 in
set_option maxRecDepth 100000 in
theorem r8Pack_any {n l h l' h' l'' h'' : Nat} (v : Value) (L : List Int) (v' : Value) (ss : List Int) (v'' : Value) (gs : List Int) (w : World) (hv : Ints w l h v L) (hv' : Ints w l' h' v' ss) (hv'' : Ints w l'' h'' v'' gs) (hh' : h' ≤ w.heap.size) (hh'' : h'' ≤ w.heap.size)
    (hL : PackL n L) (h1 : 1 ≤ n) (h7 : n ≤ 7) (hls : ss.length = n) (hlg : gs.length = n) (hll : L.length ≤ n) (hs : ∀ i, 0 ≤ ss.getD i 0 ∧ ss.getD i 0 ≤ 12) (hg : ∀ i, 0 ≤ gs.getD i 0 ∧ gs.getD i 0 ≤ 12) :
    Calls Try.prog 21 #[v, v', v''] w fun e w' => e = .returned (.tuple #[.int .i64 (lSum ss L), .int .i64 (lSum gs L), .bool true]) ∧ Drew w w' := by
  obtain ⟨da, dc, rfl, dc1, dc2, dcase⟩ := hv.out
  obtain ⟨b, off, cap, rfl, hc1, hc2, hb, SC⟩ := hv'.seen hh' hls h1
  obtain ⟨gb, goff, gcap, rfl, gc1, gc2, ghb, GC⟩ := hv''.seen hh'' hlg h1
  have HDC := Lib.hid dcase
  have HPL := Lib.hid hL
  have HS := Lib.hid hs
  have HG := Lib.hid hg
  have HSR := Lib.hid (fun k => lSum_rng hs (L.take k))
  have HGR := Lib.hid (fun k => lSum_rng hg (L.take k))
  have HST : Hid (∀ k, k < L.length → lSum ss (L.take (k + 1)) = lSum ss (L.take k) + ss.getD (L.getD k 0).toNat 0) := fun k hk => lSum_take ss L hk
  have HGT : Hid (∀ k, k < L.length → lSum gs (L.take (k + 1)) = lSum gs (L.take k) + gs.getD (L.getD k 0).toNat 0) := fun k hk => lSum_take gs L hk
  clear hv hv' hv'' dcase hL hs hg hls hlg
  go_enter Try.func21, Try.ntmps21
  go_wp2_with fail
  go_loopw [9, 10, 11] (fun av bv kv wr => ∃ (k : Nat) (x y : Int), k ≤ L.length ∧ kv = .int .i64 k ∧ av = .int .i64 x ∧ bv = .int .i64 y ∧ x = lSum ss (L.take k) ∧ y = lSum gs (L.take k) ∧ Drew w wr) (fun _ _ kv _ => L.length - (intOf kv).toNat)
  case atStart => exact ⟨0, 0, 0, Nat.zero_le _, rfl, rfl, rfl, rfl, rfl, Drew.refl _⟩
  case round =>
    obtain ⟨k, x, y, hk, rfl, rfl, rfl, hx, hy, hd⟩ := hrel
    have hxr := HSR.out k
    have hyr := HGR.out k
    rw [← hx, List.length_take] at hxr
    rw [← hy, List.length_take] at hyr
    by_cases hkl : k < L.length
    · have hnx := HST.out k hkl
      have hny := HGT.out k hkl
      rw [← hx] at hnx
      rw [← hy] at hny
      have hir := HPL.out.1 _ (getD_mem hkl)
      rcases HDC.out with e | ⟨g, go, rfl, hg1, hg2, hg3, gcell⟩
      · exfalso; rw [e] at hkl; simp at hkl
      have HPR : Hid (∀ m, k = m + 1 → ∃ j : Int, L.getD m 0 = j ∧ j < L.getD k 0 ∧ w.cell? ⟨g, go + m, none⟩ = some (.int .i64 j)) := fun m hm => by
        subst hm
        exact ⟨_, rfl, HPL.out.step hkl, gcell m (by omega)⟩
      have ck0 := gcell k hkl
      obtain ⟨i, hi⟩ : ∃ i : Nat, L.getD k 0 = (i : Int) := ⟨(L.getD k 0).toNat, by omega⟩
      rw [hi] at ck0 hnx hny hir HPR
      rw [Int.toNat_natCast] at hnx hny
      have hin : i < n := by omega
      have hbw := hd.below w.heap.size
      have ck : wr.cell? ⟨g, go + k, none⟩ = some (.int .i64 (i : Int)) := by rw [hd.cell ⟨g, go + k, none⟩]; exact ck0
      have cs : wr.cell? ⟨b, off + i, none⟩ = some (.int .i64 (ss.getD i 0)) := SC.out wr i (hd.below _) hin
      have cg : wr.cell? ⟨gb, goff + i, none⟩ = some (.int .i64 (gs.getD i 0)) := GC.out wr i (hd.below _) hin
      have b1 := HS.out i
      have b2 := HG.out i
      obtain ⟨p, hp⟩ : ∃ p, p = ss.getD i 0 := ⟨_, rfl⟩
      obtain ⟨r, hr⟩ : ∃ p, p = gs.getD i 0 := ⟨_, rfl⟩
      rw [← hp] at cs b1 hnx
      rw [← hr] at cg b2 hny
      have HNX := Lib.hid hnx
      have HNY := Lib.hid hny
      have HD := Lib.hid hd
      have z0 : ¬ (i : Int) < 0 := by omega
      have z1 : ¬ (n : Int) ≤ (i : Int) := by omega
      have z1' : ¬ n ≤ i := by omega
      clear hnx hny hi gcell hx hy hp hr ck0 hir hbw
      by_cases hk0 : k = 0
      · subst hk0
        have zk : ((0 : Nat) : Int) = 0 := rfl
        rw [Nat.add_zero] at ck
        rw [zk]
        have zl : (0 : Int) < (L.length : Int) := by omega
        have z0d : decide ((i : Int) < 0) = false := decide_eq_false z0
        have z1d : decide ((n : Int) ≤ (i : Int)) = false := decide_eq_false z1
        have z2d : decide (n ≤ i) = false := decide_eq_false z1'
        clear HPR hd zk
        go_wp2_with fail
        go_big_quiet (fail)
        obtain ⟨w9, hw9⟩ : ∃ X, X = wr.drewN nq := ⟨_, rfl⟩
        have hD9 : Drew wr w9 := by rw [hw9]; exact Drew.one _ _
        rw [← hw9]
        clear hw9
        have HD9 : Drew w w9 := HD.out.trans hD9
        have cs9 : w9.cell? ⟨b, off + i, none⟩ = some (.int .i64 p) := by rw [hD9.cell ⟨b, off + i, none⟩]; exact cs
        have cg9 : w9.cell? ⟨gb, goff + i, none⟩ = some (.int .i64 r) := by rw [hD9.cell ⟨gb, goff + i, none⟩]; exact cg
        have ck9 : w9.cell? ⟨g, go, none⟩ = some (.int .i64 (i : Int)) := by rw [hD9.cell ⟨g, go, none⟩]; exact ck
        have HD9' := Lib.hid HD9
        clear hD9 HD9 cs cg ck
        go_wp2
        go_roundw
        case rel => exact ⟨0 + 1, x + p, y + r, by omega, by go_num, by go_num, by go_num, HNX.out.symm, HNY.out.symm, HD9'.out⟩
        case measure => (simp [intOf]; try omega)
      · obtain ⟨m, rfl⟩ : ∃ m, k = m + 1 := ⟨k - 1, by omega⟩
        obtain ⟨j, _, hj, cj0⟩ := HPR.out m rfl
        have cj : wr.cell? ⟨g, go + m, none⟩ = some (.int .i64 j) := by rw [hd.cell ⟨g, go + m, none⟩]; exact cj0
        have zk : ((m + 1 : Nat) : Int) = (m : Int) + 1 := rfl
        rw [zk]
        have hb0 : (0 : Int) < (m : Int) + 1 := by omega
        have hb1 : (0 : Int) ≤ (m : Int) + 1 := by omega
        have hb2 : m < L.length := by omega
        have zq : ((m : Int) + 1).toNat = m + 1 := by omega
        have zl : (m : Int) + 1 < (L.length : Int) := by omega
        have zl2 : (m : Int) < (L.length : Int) := by omega
        have zw : IntKind.i64.wrap ((m : Int) + 1 - 1) = (m : Int) := by rw [Int.add_sub_cancel]; exact IntWalk.i64_in _ (by omega)
        have zw2 : IntKind.i64.wrap (m : Int) = (m : Int) := IntWalk.i64_in _ (by omega)
        have z3 : ¬ (i : Int) ≤ j := by omega
        have zm : (m : Int) + 1 - 1 = (m : Int) := by omega
        clear HPR hd cj0 zk
        have hD9 : Drew wr wr.drew := ⟨1, rfl⟩
        have HS9 : Hid (wr.drew.cell? ⟨g, go + (m + 1), none⟩ = some (.int .i64 (i : Int)) ∧ wr.drew.cell? ⟨g, go + m, none⟩ = some (.int .i64 j)) := by rw [Hid, hD9.cell, hD9.cell]; exact ⟨ck, cj⟩
        go_wp2_with fail
        go_region_held3 (fun w' => w'.cell? ⟨g, go + (m + 1), none⟩ = some (.int .i64 (i : Int)) ∧ w'.cell? ⟨g, go + m, none⟩ = some (.int .i64 j)) (exact HS9.out) (first | fail)
        obtain ⟨w9, hw9⟩ : ∃ X, X = wr.drew := ⟨_, rfl⟩
        rw [← hw9] at hD9 ⊢
        clear hw9 HS9
        have HD9 : Drew w w9 := HD.out.trans hD9
        have cs9 : w9.cell? ⟨b, off + i, none⟩ = some (.int .i64 p) := by rw [hD9.cell ⟨b, off + i, none⟩]; exact cs
        have cg9 : w9.cell? ⟨gb, goff + i, none⟩ = some (.int .i64 r) := by rw [hD9.cell ⟨gb, goff + i, none⟩]; exact cg
        have ck9 : w9.cell? ⟨g, go + (m + 1), none⟩ = some (.int .i64 (i : Int)) := by rw [hD9.cell ⟨g, go + (m + 1), none⟩]; exact ck
        have HD9' := Lib.hid HD9
        clear hD9 HD9 cs cg ck
        go_wp2
        go_roundw
        case rel => exact ⟨m + 1 + 1, x + p, y + r, by omega, by go_num, by go_num, by go_num, HNX.out.symm, HNY.out.symm, HD9'.out⟩
        case measure => (simp [intOf]; try omega)
    · obtain rfl : k = L.length := by omega
      rw [List.take_length] at hx hy
      have HX := Lib.hid hx
      have HY := Lib.hid hy
      have HD := Lib.hid hd
      clear hx hy hd
      go_wp2
      go_ret3
      exact ⟨by rw [← HX.out, ← HY.out]; rfl, HD.out⟩
end Go.Proofs.Ytkankfdpodofjaa
