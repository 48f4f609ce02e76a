/-
  FnTours, the near tour.
-/
import Derived.Test.YtkankfdpodofjaaTourA
namespace Go.Proofs.Ytkankfdpodofjaa
open Go.RowKit
set_option linter.unusedVariables false
set_option maxRecDepth 100000

set_option maxHeartbeats 4000000 in
set_option maxRecDepth 100000 in
theorem tours17 (w0 w : World) {u0 u2 u3 u4 u7 u8 u10 u11 u12 u13 u14 u15 u16 u17 u18 u20 u21 u22 u23 u24 u25 u26 u27 u28 u29 u30 u31 u32 u33 u34 u35 u36 u37 u38 u39 u40 u41 u42 u43 u44 u45 u46 u47 u48 u49 u50 u51 u52 u53 u54 u55 u56 u57 u58 u59 u60 u61 u62 u63 u64 u65 u66 u67 u68 u69 u70 u71 u72 u73 u74 u75 u76 u77 u78 u79 u80 u81 u82 u83 u84 u85 u86 u87 u88 u89 u90 u91 u92 u93 u94 u95 u96 u97 u98 u99 u100 u101 u102 u103 u104 u105 u106 u107 u108 u109 u110 u111 u112 u113 u114 u115 u116 u117 u118 u119 u120 u121 u122 u123 u124 u125 u126 u127 u128 u129 u130 u131 u132 u133 u134 u135 u136 u137 u138 u139 u140 u141 u142 u143 u144 u145 u146 u147 u148 u149 u150 u151 u152 u153 u154 u155 u156 u157 u158 u159 u160 u161 u162 u163 u164 u165 u166 u167 u168 u169 u170 u171 u172 u173 u174 u175 u176 u177 u178 u179 u180 u181 u182 u183 u184 u185 u186 u187 u188 u189 u190 u191 u192 u193 u194 u195 u196 u197 u198 u199 u200 u201 u202 u203 u204 u205 u206 u207 u208 u209 u210 u211 u212 u213 u214 u215 u216 u217 u218 u219 u220 u221 u222 u223 u224 u225 u226 u227 u228 u229 u230 u231 u232 u233 u234 u235 u236 u237 u238 u239 u240 u241 u242 u243 u244 u245 u246 u247 u248 u249 u250 u251 u252 u253 u254 u255 u256 u257 u258 u259 u260 u261 u262 u263 u264 u265 u266 u267 u268 u269 u270 u271 u272 u273 u274 u275 u276 u277 u278 u279 u280 u281 u282 u283 u284 u285 u286 u287 u288 u289 u290 u291 u292 u293 u294 u295 u296 u297 u298 u299 u300 u301 u302 u303 u304 u305 u306 u307 u308 u309 u310 u311 u312 u313 u314 u315 u316 u317 u318 u319 u320 u321 u322 u323 u324 u325 u326 u327 u328 u329 u330 u331 u332 u333 u334 u335 u336 u337 u338 u339 u340 u341 u342 u343 u344 u345 u346 u347 u348 u349 u350 u351 u352 u353 u354 u355 : Value} {v1 : Value} {z1 : List Int} {n wb wo wl wc : Nat} {ws : List Int} {least : Int} (hB : Below w0.heap.size w0 w) (h1 : Byts w0 0 w0.heap.size v1 z1) (hv : Ints w 0 w.heap.size (.slice (some ⟨wb, wo, none⟩) wl wc) ws) (hc : CitN ws n) (hn7 : n ≤ 7) (hls : ∀ A, TourN A n → least ≤ longP ws n A) {nb no nc : Nat} {Nr : List Int} (hN : Ints w 0 w.heap.size (.slice (some ⟨nb, no, none⟩) n nc) Nr) (hNT : TourN Nr n) (hnx : ∀ i k : Nat, i + 1 < n → i + 1 ≤ k → k < n → wayOf ws n (Nr.getD i 0) (Nr.getD (i + 1) 0) ≤ wayOf ws n (Nr.getD i 0) (Nr.getD k 0)) :
    Code.wp Try.prog (hdC (tlC 17 bodyOf)) (Exit.then (Code.wp Try.prog (tlC 18 bodyOf) (bodyPost Try.prog Try.f6 fun e w' => e = .returned (.bool true) ∧ Below w0.heap.size w0 w')) (bodyPost Try.prog Try.f6 fun e w' => e = .returned (.bool true) ∧ Below w0.heap.size w0 w')) ⟨#[u0, v1, u2, u3, u4, (.int .i64 (n : Int)), (.slice (some ⟨wb, wo, none⟩) wl wc), u7, u8, (.int .i64 least), u10, u11, u12, u13, u14, u15, u16, u17, u18, (.slice (some ⟨nb, no, none⟩) n nc), u20, u21, u22, u23, u24, u25, u26, u27, u28, u29, u30, u31, u32, u33, u34, u35, u36, u37, u38, u39, u40, u41, u42, u43, u44, u45, u46, u47, u48, u49, u50, u51, u52, u53, u54, u55, u56, u57, u58, u59, u60, u61, u62, u63, u64, u65, u66, u67, u68, u69, u70, u71, u72, u73, u74, u75, u76, u77, u78, u79, u80, u81, u82, u83, u84, u85, u86, u87, u88, u89, u90, u91, u92, u93, u94, u95, u96, u97, u98, u99, u100, u101, u102, u103, u104, u105, u106, u107, u108, u109, u110, u111, u112, u113, u114, u115, u116, u117, u118, u119, u120, u121, u122, u123, u124, u125, u126, u127, u128, u129, u130, u131, u132, u133, u134, u135, u136, u137, u138, u139, u140, u141, u142, u143, u144, u145, u146, u147, u148, u149, u150, u151, u152, u153, u154, u155, u156, u157, u158, u159, u160, u161, u162, u163, u164, u165, u166, u167, u168, u169, u170, u171, u172, u173, u174, u175, u176, u177, u178, u179, u180, u181, u182, u183, u184, u185, u186, u187, u188, u189, u190, u191, u192, u193, u194, u195, u196, u197, u198, u199, u200, u201, u202, u203, u204, u205, u206, u207, u208, u209, u210, u211, u212, u213, u214, u215, u216, u217, u218, u219, u220, u221, u222, u223, u224, u225, u226, u227, u228, u229, u230, u231, u232, u233, u234, u235, u236, u237, u238, u239, u240, u241, u242, u243, u244, u245, u246, u247, u248, u249, u250, u251, u252, u253, u254, u255, u256, u257, u258, u259, u260, u261, u262, u263, u264, u265, u266, u267, u268, u269, u270, u271, u272, u273, u274, u275, u276, u277, u278, u279, u280, u281, u282, u283, u284, u285, u286, u287, u288, u289, u290, u291, u292, u293, u294, u295, u296, u297, u298, u299, u300, u301, u302, u303, u304, u305, u306, u307, u308, u309, u310, u311, u312, u313, u314, u315, u316, u317, u318, u319, u320, u321, u322, u323, u324, u325, u326, u327, u328, u329, u330, u331, u332, u333, u334, u335, u336, u337, u338, u339, u340, u341, u342, u343, u344, u345, u346, u347, u348, u349, u350, u351, u352, u353, u354, u355], []⟩ w := by
  conv => arg 2; whnf
  have hs0 : w0.heap.size ≤ w.heap.size := hB.size
  have HB := Lib.hid hB
  have HY1 := Lib.hid h1
  have HV : Hid (∀ wx, Below w.heap.size w wx → Ints wx 0 w.heap.size (.slice (some ⟨wb, wo, none⟩) wl wc) ws) := fun wx hx => hv.below hx (Nat.le_refl _)
  have HC := Lib.hid hc
  have HLS := Lib.hid hls
  have hn1 : 1 ≤ n := hc.le.1
  clear hB h1 hv hc hls
  have HNX := Lib.hid hnx
  have HNT := Lib.hid hNT
  have hNl := hNT.len
  obtain ⟨na, nc', ne, g1, g2, gd⟩ := hN.out
  injection ne with ne1 ne2 ne3
  rcases gd with gd | ⟨nb', no', ne4, r1, r2, r3, ncell⟩
  · exfalso; rw [gd] at hNl; simp at hNl; omega
  rw [← ne1] at ne4
  injection ne4 with ne5
  injection ne5 with ne6 ne7 ne8
  subst ne6 ne7
  rw [hNl] at ncell
  obtain ⟨wa, wc', we, d1, d2, dd⟩ := (HV.out w (Below.refl _ _)).out
  injection we with we1 we2 we3
  have hww := HC.out.le.2.2.2
  rcases dd with dd | ⟨wb', wo', we4, b1, b2, b3, wcell⟩
  · exfalso
    have := hww.1
    rw [dd] at this
    have := Nat.mul_pos (show 0 < n by omega) (show 0 < n by omega)
    simp at *; omega
  rw [← we1] at we4
  injection we4 with we5
  injection we5 with we6 we7 we8
  subst we6 we7
  have HNC := Lib.hid ncell
  have HWC := Lib.hid wcell
  have HWW := Lib.hid hww
  have HWL : Hid (wl = n * n) := by rw [Hid, we2]; exact hww.1.symm
  have hwl49 : wl ≤ 100 := by rw [HWL.out]; exact prod_le (by omega) (by omega)
  clear hnx hNT hN ncell wcell hww ne1 ne2 ne3 ne8 we1 we2 we3 we8 hNl g1 g2 d1 d2
  go_wp2_with fail
  go_loopw [32] (fun iv wr => ∃ i : Nat, i ≤ n - 1 ∧ iv = .int .i64 i ∧ Hid (Drew w wr)) (fun iv _ => n - (intOf iv).toNat)
  case atStart => exact ⟨0, Nat.zero_le _, rfl, Drew.refl _⟩
  case round =>
    obtain ⟨i, hi, rfl, HD⟩ := hrel
    have wi : IntKind.i64.wrap ((i : Int) + 1) = (i : Int) + 1 := IntWalk.i64_in _ (by omega)
    by_cases hin : i + 1 < n
    · have hi1 : (i : Int) + 1 < (n : Int) := by omega
      have hra := HNT.out.rng _ (getD_memI (show i < Nr.length by rw [HNT.out.len]; omega))
      have hrb := HNT.out.rng _ (getD_memI (show i + 1 < Nr.length by rw [HNT.out.len]; omega))
      obtain ⟨a, ha⟩ := Int.eq_ofNat_of_zero_le hra.1
      obtain ⟨b, hb⟩ := Int.eq_ofNat_of_zero_le hrb.1
      have han : a < n := by omega
      have hbn : b < n := by omega
      have c1 : wr.cell? ⟨nb, no + i, none⟩ = some (.int .i64 (a : Int)) := by rw [HD.out.cell, HNC.out i (by omega), ha]
      have HNI := Lib.hid (fun (k : Nat) (h1 : i + 1 ≤ k) (h2 : k < n) => HNX.out i k hin h1 h2)
      rw [ha, hb] at HNI
      have HCB : Hid (∀ wx, Drew w wx → wx.cell? ⟨nb, no + (i + 1), none⟩ = some (.int .i64 (b : Int))) := fun wx hx => by rw [hx.cell, HNC.out (i + 1) hin, hb]
      have hin2 : (i : Int) < (n : Int) := by omega
      have hin3 : i < n := by omega
      clear ha hb hra hrb
      obtain ⟨wo2, hwo⟩ : ∃ X : World, X = wr := ⟨_, rfl⟩
      rw [← hwo] at HD c1
      rw [← hwo]
      clear hwo
      go_wp2_with fail
      go_loopw [34] (fun kv wr => ∃ k : Nat, i + 1 ≤ k ∧ k ≤ n ∧ kv = .int .i64 k ∧ Hid (Drew w wr)) (fun kv _ => n - (intOf kv).toNat)
      case atStart => exact ⟨i + 1, Nat.le_refl _, by omega, by go_num, HD⟩
      case round =>
        clear HD c1
        obtain ⟨k, hk0, hk, rfl, HD⟩ := hrel
        by_cases hkn : k < n
        · have hrd := HNT.out.rng _ (getD_memI (show k < Nr.length by rw [HNT.out.len]; omega))
          obtain ⟨d, hd⟩ := Int.eq_ofNat_of_zero_le hrd.1
          have hdn : d < n := by omega
          have hcmp := HNI.out k hk0 hkn
          rw [hd] at hcmp
          have c2 : wr.cell? ⟨nb, no + k, none⟩ = some (.int .i64 (d : Int)) := by rw [HD.out.cell, HNC.out k hkn, hd]
          have c3 := HCB.out wr HD.out
          have p1 := pos_lt han hdn
          have p2 := pos_lt han hbn
          have c4 : wr.cell? ⟨wb, wo + (a * n + d), none⟩ = some (.int .i64 (wayOf ws n (a : Int) (d : Int))) := by rw [HD.out.cell, HWC.out _ (by rw [← HWW.out.1]; exact p1), wayOf_nat]
          have c5 : wr.cell? ⟨wb, wo + (a * n + b), none⟩ = some (.int .i64 (wayOf ws n (a : Int) (b : Int))) := by rw [HD.out.cell, HWC.out _ (by rw [← HWW.out.1]; exact p2), wayOf_nat]
          rw [← HWL.out] at p1 p2
          have hp1 := prod_nat a n
          have hq1 := prod_le (i := a) (n := n) (by omega) (by omega)
          obtain ⟨x, hx⟩ : ∃ x, x = wayOf ws n (a : Int) (d : Int) := ⟨_, rfl⟩
          obtain ⟨y, hy⟩ : ∃ x, x = wayOf ws n (a : Int) (b : Int) := ⟨_, rfl⟩
          rw [← hx] at c4 hcmp
          rw [← hy] at c5 hcmp
          obtain ⟨s, hs⟩ : ∃ s, s = a * n := ⟨_, rfl⟩
          rw [← hs] at c4 c5 hp1 hq1 p1 p2
          have z1 : (s : Int) + (d : Int) < (wl : Int) := by omega
          have z2 : (s : Int) + (b : Int) < (wl : Int) := by omega
          have z3 : (0 : Int) ≤ (s : Int) + (d : Int) := by omega
          have z4 : (0 : Int) ≤ (s : Int) + (b : Int) := by omega
          have v1' := wrap_sum (q := s) (k := d) (by omega) (by omega)
          have v2' := wrap_nat (q := s) (by omega)
          have v3' := wrap_sum (q := s) (k := b) (by omega) (by omega)
          have hkI : (k : Int) < (n : Int) := by omega
          have x1 : ¬ x < y := by omega
          have x2 : decide (x < y) = false := decide_eq_false x1
          clear hd hrd hx hy hs
          go_wp2_with fail
          go_quiet (fail)
          clear v1' v2' v3' hp1
          go_wp2
          go_roundw
          case rel => exact ⟨k + 1, by omega, by omega, by go_num, HD.out.step _⟩
          case measure => simp [intOf]; omega
        · obtain rfl : k = n := by omega
          go_wp2
          go_roundw
          case rel => exact ⟨i + 1, by omega, by go_num, HD⟩
          case measure => simp [intOf]; omega
    · have hi1 : ¬ (i : Int) + 1 < (n : Int) := by omega
      go_wp2_with fail
      conv => arg 2; whnf
      refine wp_seq ?_
      exact tours18 w0 wr (HB.out.trans ((HD.out.below w.heap.size).mono hs0)) HY1.out ((HV.out wr (HD.out.below w.heap.size)).mono (Nat.le_refl _) ((HD.out.below w.heap.size).size) (Nat.le_refl _)) HC.out hn7 HLS.out
end Go.Proofs.Ytkankfdpodofjaa
