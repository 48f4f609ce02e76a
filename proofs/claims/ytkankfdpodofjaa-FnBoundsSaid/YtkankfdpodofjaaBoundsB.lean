/-
  FnBounds, the edges of the tree.
-/
import Derived.Test.YtkankfdpodofjaaEdgeP
import Derived.Test.YtkankfdpodofjaaWays
import Derived.Deep.DeepCutAuto
namespace Go.Proofs.Ytkankfdpodofjaa
open Go.RowKit
set_option linter.unusedVariables false
set_option maxRecDepth 100000

def tlC : Nat → Code → Code
  | 0, c => c
  | n + 1, .seq _ b => tlC n b
  | _, c => c
def hdC : Code → Code
  | .seq a _ => a
  | c => c
theorem join_part {P : Program} {x y : Code} {Q : Exit → Act → World → Prop} {a : Act} {w : World} {K : Act → World → Prop} (hK : ∀ a w, Code.wp P y Q a w → K a w)
    (h : Code.wp P x (Exit.then (Code.wp P y Q) Q) a w) : Code.wp P x (Exit.then K Q) a w :=
  Code.wp_mono (fun e a w h => by cases e <;> first | exact hK _ _ h | exact h) h
noncomputable def bodyOf : Code := Try.f3.body.getD .skip
theorem boolMade (n : Nat) (hn : n ≤ 1048576) : ∀ wx : World, (Instr.makeSlice 33 (.int .i64 n) (.int .i64 n)).run Try.prog wx = .ok (.slice (some ⟨wx.heap.size, 0, none⟩) n n) (wx.alloc (.cells (madeCells #[Value.bool false] n) 4)) := by
  intro wx
  obtain ⟨i0, hi, hz0, hz1, hz2⟩ := info_parts info_bool
  have := run_make (P := Try.prog) wx 33 4 i0 (.bool false) Try.underlying33 hi hz0 .i64 .i64 n n (by omega) (by omega) (by rw [hz2]; omega) (by omega)
  rw [hz1, Int.toNat_natCast, Nat.mul_one] at this
  exact this
theorem boolRow (w : World) (n : Nat) (hn : n ≤ 1048576) : RowB (w.alloc (.cells (madeCells #[Value.bool false] n) 4)) w.heap.size w.heap.size n n (List.replicate n false) :=
  RowB.made (World.ownsRow_lit w _ n (Nat.le_refl _) (by unfold maxLen; omega) (by simp [size_madeCells]))
set_option maxHeartbeats 4000000 in
set_option maxRecDepth 100000 in
theorem boundsB (w0 w : World) {u0 u1 u2 u3 u4 u7 u8 u9 u12 u13 u14 u15 u17 u18 u19 u20 u21 u22 u23 u24 u25 u26 u27 u28 u29 u30 u31 u32 u33 u34 u35 u36 u37 u38 u39 u40 u41 u42 u43 u44 u45 u46 u47 u48 u49 u50 u51 u52 u53 u54 u55 u56 u57 u58 u59 u60 u61 u62 u63 u64 u65 u66 u67 u68 u69 u70 u71 u72 u73 u74 u75 u76 u77 u78 u79 u80 u81 u82 u83 u84 u85 u86 u87 u88 u89 u90 u91 u92 u93 u94 u95 u96 u97 u98 u99 u100 u101 u102 u103 u104 u105 u106 u107 u108 u109 u110 u111 u112 u113 u114 u115 u116 u117 u118 u119 u120 u121 u122 u123 u124 u125 u126 u127 u128 u129 u130 u131 u132 u133 u134 u135 u136 u137 u138 u139 u140 u141 u142 u143 u144 u145 u146 u147 u148 u149 u150 u151 u152 u153 u154 u155 u156 u157 u158 u159 u160 u161 u162 u163 u164 u165 u166 u167 u168 u169 u170 u171 u172 u173 u174 u175 u176 u177 u178 u179 u180 u181 u182 u183 u184 u185 u186 u187 u188 u189 u190 u191 u192 u193 u194 u195 u196 u197 u198 u199 u200 u201 u202 u203 u204 u205 u206 u207 u208 u209 u210 : Value} {n wb wo wl wc eb eo el ec pb po pc : Nat} {W : Int → Int → Int} (hB : Below w0.heap.size w0 w) (hn3 : 3 ≤ n) (hn7 : n ≤ 7) (hel : el = 2 * (n - 1)) (hwl : wl = n * n) (hwb : wb < w.heap.size) (heb : eb < w.heap.size) (hpb : pb < w.heap.size) (hway : ∀ a b : Nat, a < n → b < n → w.cell? ⟨wb, wo + (a * n + b), none⟩ = some (.int .i64 (W a b))) (hrng : ∀ a b : Int, 0 ≤ a → a < (n : Int) → 0 ≤ b → b < (n : Int) → 0 ≤ W a b ∧ W a b ≤ 1000) (hedge : ∀ i, i < el → w.cell? ⟨eb, eo + i, none⟩ = some (.int .i64 ((tE W n (n - 1)).getD i 0))) (hprice : ∀ i, i < n → w.cell? ⟨pb, po + i, none⟩ = some (.int .i64 0)) :
    Code.wp Try.prog (hdC (tlC 10 bodyOf)) (Exit.then (Code.wp Try.prog (tlC 11 bodyOf) (bodyPost Try.prog Try.f3 fun e w' => e = .returned (.bool true) ∧ Below w0.heap.size w0 w')) (bodyPost Try.prog Try.f3 fun e w' => e = .returned (.bool true) ∧ Below w0.heap.size w0 w')) ⟨#[u0, u1, u2, u3, u4, (.int .i64 (n : Int)), (.slice (some ⟨wb, wo, none⟩) wl wc), u7, u8, u9, (.slice (some ⟨eb, eo, none⟩) el ec), (.int .i64 (tT W n (n - 1))), u12, u13, u14, u15, (.slice (some ⟨pb, po, none⟩) n pc), u17, u18, u19, u20, u21, u22, u23, u24, u25, u26, u27, u28, u29, u30, u31, u32, u33, u34, u35, u36, u37, u38, u39, u40, u41, u42, u43, u44, u45, u46, u47, u48, u49, u50, u51, u52, u53, u54, u55, u56, u57, u58, u59, u60, u61, u62, u63, u64, u65, u66, u67, u68, u69, u70, u71, u72, u73, u74, u75, u76, u77, u78, u79, u80, u81, u82, u83, u84, u85, u86, u87, u88, u89, u90, u91, u92, u93, u94, u95, u96, u97, u98, u99, u100, u101, u102, u103, u104, u105, u106, u107, u108, u109, u110, u111, u112, u113, u114, u115, u116, u117, u118, u119, u120, u121, u122, u123, u124, u125, u126, u127, u128, u129, u130, u131, u132, u133, u134, u135, u136, u137, u138, u139, u140, u141, u142, u143, u144, u145, u146, u147, u148, u149, u150, u151, u152, u153, u154, u155, u156, u157, u158, u159, u160, u161, u162, u163, u164, u165, u166, u167, u168, u169, u170, u171, u172, u173, u174, u175, u176, u177, u178, u179, u180, u181, u182, u183, u184, u185, u186, u187, u188, u189, u190, u191, u192, u193, u194, u195, u196, u197, u198, u199, u200, u201, u202, u203, u204, u205, u206, u207, u208, u209, u210], []⟩ w := by
  conv => arg 2; whnf
  have hs0 : w0.heap.size ≤ w.heap.size := hB.size
  have HB := Lib.hid hB
  have HEL := Lib.hid hel
  have HWL := Lib.hid hwl
  have HWAY := Lib.hid hway
  have HRNG := Lib.hid hrng
  have HEDGE := Lib.hid hedge
  have HPRICE := Lib.hid hprice
  have HM := boolMade n (by omega)
  have hel12 : el ≤ 12 := by omega
  have hwl49 : wl ≤ 100 := by rw [hwl]; exact prod_le (by omega) (by omega)
  obtain ⟨m, hm⟩ : ∃ m, m = n - 1 := ⟨_, rfl⟩
  rw [← hm]
  have HMN := Lib.hid hm
  clear hB hel hwl hway hrng hedge hprice hm
  obtain ⟨S, hS⟩ : ∃ S, S = tT W n m := ⟨_, rfl⟩
  rw [← hS]
  have HSUM := Lib.hid hS
  clear hS
  obtain ⟨W1, hW1⟩ : ∃ X, X = w.alloc (.cells (madeCells #[Value.bool false] n) 4) := ⟨_, rfl⟩
  obtain ⟨g, hg⟩ : ∃ b, b = w.heap.size := ⟨_, rfl⟩
  have hR1 : RowB W1 w.heap.size g n n (List.replicate n false) := by rw [hW1, hg]; exact boolRow w n (by omega)
  have HR1 := Lib.hid hR1
  have HB1 : Hid (Below w.heap.size w W1) := by rw [hW1]; exact (Below.refl _ _).alloc (Nat.le_refl _) _
  have hcell := hR1.cell (k := 0) (by omega)
  have hfro := hR1.frozen 0
  have hgw : w.heap.size ≤ g := by omega
  have hn0 : (0 : Int) < (n : Int) := by omega
  clear hR1
  go_wp2_with fail
  conv => arg 2; whnf
  go_upto_region 14 with (fail)
  rw [← hW1, ← hg]
  clear hW1 hg HM
  obtain ⟨W2, hW2⟩ : ∃ X, X = W1.setCell ⟨g, 0, none⟩ (.bool true) := ⟨_, rfl⟩
  have HR2 : Hid (RowB W2 w.heap.size g n n (inK W n 0)) := by rw [hW2, ← inK_zero W (show 1 ≤ n by omega)]; exact HR1.out.stored 0 true
  have HB2 : Hid (Below w.heap.size w W2) := by rw [hW2]; exact HB1.out.setCell hgw _
  go_upto_region 15 with (fail)
  rw [← hW2]
  clear hW2 hcell hfro
  go_wp2_with fail
  go_loopw [21, 23] (fun tv iv wr => ∃ k : Nat, k ≤ m ∧ tv = .int .i64 (tT W n k) ∧ iv = .int .i64 ((2 * k : Nat)) ∧ Hid (RowB wr w.heap.size g n n (inK W n k)) ∧ Hid (Below w.heap.size w wr)) (fun _ iv _ => el - (intOf iv).toNat)
  case atStart => exact ⟨0, Nat.zero_le _, rfl, rfl, HR2, HB2⟩
  case round =>
    obtain ⟨k, hk, rfl, rfl, HR, HBR⟩ := hrel
    have hsr := HBR.out.size
    have hem : el = 2 * m := by rw [HEL.out, HMN.out]
    have htr := tT_rng HRNG.out k (by rw [HMN.out] at hk; omega)
    by_cases hkm : k < m
    · obtain ⟨a, b, he⟩ := edgeF W (n := n) (k := k) (by rw [HMN.out] at hkm; omega)
      have hea := HEDGE.out (2 * k) (by omega)
      have heb2 := HEDGE.out (2 * k + 1) (by omega)
      rw [he.ea] at hea
      rw [he.eb] at heb2
      have hla := he.la
      have hlb := he.lb
      have hwab := HWAY.out a b hla hlb
      have hwr := HRNG.out (a : Int) (b : Int) (by omega) (by omega) (by omega) (by omega)
      have c1 := (HBR.out.cell (p := ⟨eb, eo + 2 * k, none⟩) heb).trans hea
      have c2 := (HBR.out.cell (p := ⟨eb, eo + (2 * k + 1), none⟩) heb).trans heb2
      have c3 := (HBR.out.cell (p := ⟨wb, wo + (a * n + b), none⟩) hwb).trans hwab
      have c4 := HR.out.cell hla
      have c5 := HR.out.cell hlb
      have c6 := HR.out.frozen b
      rw [he.ia] at c4
      rw [he.ib] at c5
      have hpl := pos_lt hla hlb
      rw [← HWL.out] at hpl
      have hp1 := prod_nat a n
      have hq1 := prod_le (i := a) (n := n) (by omega) (by omega)
      obtain ⟨x, hx⟩ : ∃ x, x = W a b := ⟨_, rfl⟩
      have hnx : tT W n (k + 1) = tT W n k + x := by rw [hx]; exact he.tt
      have HNX := Lib.hid hnx
      rw [← hx] at c3 hwr
      obtain ⟨q, hq⟩ : ∃ q, q = a * n := ⟨_, rfl⟩
      rw [← hq] at c3 hp1 hq1 hpl
      obtain ⟨j, hj⟩ : ∃ j, j = 2 * k := ⟨_, rfl⟩
      rw [← hj] at c1 c2
      rw [← hj]
      have HJ := Lib.hid hj
      obtain ⟨t, ht⟩ : ∃ t, t = tT W n k := ⟨_, rfl⟩
      rw [← ht] at htr
      rw [← ht]
      have HT := Lib.hid ht
      have HS : Hid (∀ wx, RowB wx w.heap.size g n n (inK W n k) → RowB (wx.setCell ⟨g, b, none⟩ (.bool true)) w.heap.size g n n (inK W n (k + 1))) := fun wx h => by rw [← he.nx]; exact h.stored b true
      have j1 : (j : Int) + 1 < (el : Int) := by omega
      have j2 : (j : Int) < (el : Int) := by omega
      have j3 : j + 1 < el := by omega
      have j4 : j < el := by omega
      have j5 : j + 2 = 2 * (k + 1) := by omega
      have z1 : (q : Int) + (b : Int) < (wl : Int) := by omega
      have z2 : (0 : Int) ≤ (q : Int) + (b : Int) := by omega
      have z6 : ((q : Int) + (b : Int)).toNat = q + b := by omega
      have a1 : ¬ (a : Int) < 0 := by omega
      have a2 : ¬ (n : Int) ≤ (a : Int) := by omega
      have b1 : ¬ (b : Int) < 0 := by omega
      have b2 : ¬ (n : Int) ≤ (b : Int) := by omega
      have a3 : (a : Int) < (n : Int) := by omega
      have b3 : (b : Int) < (n : Int) := by omega
      have htx : 0 ≤ t + x ∧ t + x ≤ 10000 := by omega
      have j0 := HJ.out
      clear he hea heb2 hwab hx hnx hq hj ht hpl j0
      go_upto_region 23 with (fail)
      obtain ⟨W3, hW3⟩ : ∃ X, X = wr.setCell ⟨g, b, none⟩ (.bool true) := ⟨_, rfl⟩
      rw [← hW3]
      have HR3 : Hid (RowB W3 w.heap.size g n n (inK W n (k + 1))) := by rw [hW3]; exact HS.out _ HR.out
      have HB3 : Hid (Below w.heap.size w W3) := by rw [hW3]; exact HBR.out.setCell hgw _
      have d3 : W3.cell? ⟨wb, wo + (q + b), none⟩ = some (.int .i64 x) := by
        rw [hW3, ← c3]
        exact cell_of_heap (Below.heap_setCell _ _ _ _ (by show wb ≠ g; omega))
      have v1 := wrap_sum (q := q) (k := b) (by omega) (by omega)
      have v2 := wrap_nat (q := q) (by omega)
      have v3 : IntKind.i64.wrap (t + x) = t + x := IntWalk.i64_in _ (by omega)
      clear hW3 c1 c2 c3 c4 c5 c6
      go_wp2
      go_roundw
      case rel => exact ⟨k + 1, by omega, by rw [HNX.out, HT.out], by go_num, HR3, HB3⟩
      case measure => simp [intOf]; omega
    · obtain rfl : k = m := by omega
      have HALL : Hid (∀ i, i < n → (inK W n k).getD i false = true) := fun i hi => by
        rw [inK_at W n k hi, decide_eq_true_eq, HMN.out]
        exact tS_all W (by omega) (by omega) (by omega)
      obtain ⟨t, ht⟩ : ∃ t, t = tT W n k := ⟨_, rfl⟩
      have HT := Lib.hid ht
      have hts : t = S := by rw [ht, HSUM.out]
      rw [← ht]
      rw [hts]
      obtain ⟨j, hj⟩ : ∃ j, j = 2 * k := ⟨_, rfl⟩
      rw [← hj]
      have j1 : ¬ (j : Int) < (el : Int) := by omega
      have j2 : ¬ j < el := by omega
      clear ht hts htr hj hem
      go_upto_region 24 with (fail)
      go_wp2_with fail
      go_loopw [26] (fun iv wr => ∃ i : Nat, i ≤ n ∧ iv = .int .i64 i ∧ Hid (RowB wr w.heap.size g n n (inK W n k)) ∧ Hid (Below w.heap.size w wr)) (fun iv _ => n - (intOf iv).toNat)
      case atStart => exact ⟨0, Nat.zero_le _, rfl, HR, HBR⟩
      case round =>
        clear HR HBR
        obtain ⟨i, hi, rfl, HR, HBR⟩ := hrel
        by_cases hin : i < n
        · have hp := HPRICE.out i hin
          have c1 := (HBR.out.cell (p := ⟨pb, po + i, none⟩) hpb).trans hp
          have c2 := HR.out.cell hin
          rw [HALL.out i hin] at c2
          have i1 : (i : Int) < (n : Int) := by omega
          clear hp
          go_wp2
          go_roundw
          case rel => exact ⟨i + 1, by omega, by go_num, HR, HBR⟩
          case measure => simp [intOf]; omega
        · obtain rfl : i = n := by omega
          go_wp2
          go_ret
          exact ⟨by simp, HB.out.trans (HBR.out.mono hs0)⟩
end Go.Proofs.Ytkankfdpodofjaa
