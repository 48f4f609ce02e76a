/-
  FnPacks, the bins.
-/
import Derived.Test.YtkankfdpodofjaaPacksE
namespace Go.Proofs.Ytkankfdpodofjaa
open Go.RowKit
set_option linter.unusedVariables false
set_option maxRecDepth 100000

set_option maxHeartbeats 4000000 in
set_option maxRecDepth 100000 in
theorem packsD (w0 w : World) {u0 u1 u2 u3 u4 u7 u9 u10 u11 u12 u13 u14 u15 u16 u17 u18 u19 u20 u21 u22 u23 u24 u25 u26 u27 u28 u29 u30 u31 u32 u34 u35 u36 u37 u38 u39 u40 u41 u42 u43 u44 u45 u46 u47 u48 u49 u50 u51 u52 u53 u54 u55 u56 u57 u58 u59 u60 u61 u62 u63 u64 u65 u66 u67 u68 u69 u70 u71 u72 u73 u74 u75 u76 u77 u78 u79 u80 u81 u82 u83 u84 u85 u86 u87 u88 u89 u90 u91 u92 u93 u94 u95 u96 u97 u98 u99 u100 u101 u102 u103 u104 u105 u106 u107 u108 u109 u110 u111 u112 u113 u114 u115 u116 u117 u118 u119 u120 u121 u122 u123 u124 u125 u126 u127 u128 u129 u130 u131 u132 u133 u134 u135 u136 u137 u138 u139 u140 u141 u142 u143 u144 u145 u146 u147 u148 u149 u150 u151 u152 u153 u154 u155 u156 u157 u158 u159 u160 u161 u162 u163 u164 u165 u166 u167 u168 u169 u170 u171 u172 u173 u174 u175 u176 u177 u178 u179 u180 u181 u182 u183 u184 u185 u186 u187 u188 u189 u190 u191 u192 u193 u194 u195 u196 u197 u198 u199 u200 u201 u202 u203 u204 u205 u206 u207 u208 u209 u210 u211 u212 u213 u214 u215 u216 u217 u218 u219 u220 u221 u222 u223 u224 u225 u226 u227 u228 u229 u230 u231 u232 u233 u234 u235 u236 u237 u238 u239 u240 u241 u242 u243 u244 u245 u246 u247 u248 u249 u250 u251 u252 u253 u254 u255 u256 u257 u258 u259 u260 u261 u262 u263 u264 u265 u266 u267 u268 u269 u270 u271 u272 u273 u274 u275 u276 u277 u278 u279 u280 u281 u282 u283 u284 u285 u286 u287 u288 u289 u290 u291 u292 u293 u294 u295 u296 u297 u298 u299 u300 u301 u302 u303 u304 u305 u306 u307 u308 u309 u310 u311 u312 u313 u314 u315 u316 u317 u318 u319 u320 u321 u322 u323 u324 u325 u326 u327 u328 u329 u330 u331 u332 u333 u334 u335 u336 u337 u338 u339 u340 u341 u342 u343 u344 u345 u346 u347 u348 u349 u350 u351 u352 u353 u354 u355 u356 u357 u358 u359 u360 u361 u362 u363 u364 u365 u366 u367 u368 u369 u370 u371 u372 u373 u374 u375 u376 u377 u378 u379 u380 u381 u382 u383 u384 u385 u386 u387 u388 u389 u390 u391 u392 u393 u394 u395 u396 u397 u398 u399 u400 u401 u402 u403 u404 u405 u406 u407 u408 u409 u410 u411 u412 u413 u414 u415 u416 u417 u418 u419 u420 u421 u422 u423 : Value} {n R sb so sc : Nat} {ss gs : List Int} (hB : Below w0.heap.size w0 w) (HPk : PkH n R ss gs) (hS : Ints w 0 w.heap.size (.slice (some ⟨sb, so, none⟩) n sc) ss) :
    Code.wp Try.prog (hdC (tlC 25 bodyOf)) (Exit.then (Code.wp Try.prog (tlC 26 bodyOf) (bodyPost Try.prog Try.f4 fun e w' => e = .returned (.bool true) ∧ Below w0.heap.size w0 w')) (bodyPost Try.prog Try.f4 fun e w' => e = .returned (.bool true) ∧ Below w0.heap.size w0 w')) ⟨#[u0, u1, u2, u3, u4, (.int .i64 (n : Int)), (.slice (some ⟨sb, so, none⟩) n sc), u7, (.int .i64 (R : Int)), u9, u10, u11, u12, u13, u14, u15, u16, u17, u18, u19, u20, u21, u22, u23, u24, u25, u26, u27, u28, u29, u30, u31, u32, (.int .i64 (pSum ss (fun _ => true) n)), u34, u35, u36, u37, u38, u39, u40, u41, u42, u43, u44, u45, u46, u47, u48, u49, u50, u51, u52, u53, u54, u55, u56, u57, u58, u59, u60, u61, u62, u63, u64, u65, u66, u67, u68, u69, u70, u71, u72, u73, u74, u75, u76, u77, u78, u79, u80, u81, u82, u83, u84, u85, u86, u87, u88, u89, u90, u91, u92, u93, u94, u95, u96, u97, u98, u99, u100, u101, u102, u103, u104, u105, u106, u107, u108, u109, u110, u111, u112, u113, u114, u115, u116, u117, u118, u119, u120, u121, u122, u123, u124, u125, u126, u127, u128, u129, u130, u131, u132, u133, u134, u135, u136, u137, u138, u139, u140, u141, u142, u143, u144, u145, u146, u147, u148, u149, u150, u151, u152, u153, u154, u155, u156, u157, u158, u159, u160, u161, u162, u163, u164, u165, u166, u167, u168, u169, u170, u171, u172, u173, u174, u175, u176, u177, u178, u179, u180, u181, u182, u183, u184, u185, u186, u187, u188, u189, u190, u191, u192, u193, u194, u195, u196, u197, u198, u199, u200, u201, u202, u203, u204, u205, u206, u207, u208, u209, u210, u211, u212, u213, u214, u215, u216, u217, u218, u219, u220, u221, u222, u223, u224, u225, u226, u227, u228, u229, u230, u231, u232, u233, u234, u235, u236, u237, u238, u239, u240, u241, u242, u243, u244, u245, u246, u247, u248, u249, u250, u251, u252, u253, u254, u255, u256, u257, u258, u259, u260, u261, u262, u263, u264, u265, u266, u267, u268, u269, u270, u271, u272, u273, u274, u275, u276, u277, u278, u279, u280, u281, u282, u283, u284, u285, u286, u287, u288, u289, u290, u291, u292, u293, u294, u295, u296, u297, u298, u299, u300, u301, u302, u303, u304, u305, u306, u307, u308, u309, u310, u311, u312, u313, u314, u315, u316, u317, u318, u319, u320, u321, u322, u323, u324, u325, u326, u327, u328, u329, u330, u331, u332, u333, u334, u335, u336, u337, u338, u339, u340, u341, u342, u343, u344, u345, u346, u347, u348, u349, u350, u351, u352, u353, u354, u355, u356, u357, u358, u359, u360, u361, u362, u363, u364, u365, u366, u367, u368, u369, u370, u371, u372, u373, u374, u375, u376, u377, u378, u379, u380, u381, u382, u383, u384, u385, u386, u387, u388, u389, u390, u391, u392, u393, u394, u395, u396, u397, u398, u399, u400, u401, u402, u403, u404, u405, u406, u407, u408, u409, u410, u411, u412, u413, u414, u415, u416, u417, u418, u419, u420, u421, u422, u423], []⟩ w := by
  conv => arg 2; whnf
  have h1 := HPk.n1
  have h7 := HPk.n7
  have hr1 := HPk.r1
  have hr2 := HPk.r2
  have HB := Lib.hid hB
  have HP := Lib.hid HPk
  have HS := Lib.hid hS
  have hs0 : w0.heap.size ≤ w.heap.size := hB.size
  have hls := HPk.ls
  have htr := pSum_rng (p := fun _ => true) HPk.s0 n
  obtain ⟨tot, ht⟩ : ∃ t, t = pSum ss (fun _ => true) n := ⟨_, rfl⟩
  have HTT := Lib.hid ht
  rw [← ht] at htr ⊢
  clear hB HPk hS ht hls
  go_wp2_with fail
  refine (implFirstBins_any w _ ss gs HS.out (Nat.le_refl _) HP.out).mono ?_
  rintro e w1 ⟨u, out, used, rfl, hbin, ho, hb1⟩
  have HBN := Lib.hid hbin
  have hol := hbin.len
  have hus := hbin.us
  have HB1 := Lib.hid hb1
  have hs1 := hb1.size
  have hor := ho.rd
  obtain ⟨ua, uc, rfl, d1, d2, dd⟩ := hor.out
  rcases dd with dd | ⟨ub, uo, rfl, _, _, _, _⟩
  · exfalso; rw [dd] at hol; simp at hol; omega
  rw [hol] at hor ⊢
  have HU := Lib.hid (hor.mono (Nat.zero_le _) (Nat.le_refl _) (Nat.le_refl _))
  have hBL := bins_least (ss := ss) (R := (R : Int)) (n := n) HP.out.ls (fun s hs => by have := HP.out.sz s hs; omega) (by omega) h1 h7 hbin
  have HS1 := Lib.hid (HS.out.below hb1 (Nat.le_refl _))
  rw [← HTT.out] at hBL
  clear hbin ho hb1 hor d1
  go_wp2_with fail
  conv => arg 2; whnf
  go_wp2_with fail
  refine (implLeastBins_any w1 _ ss gs HS1.out hs1 HP.out).mono ?_
  rintro e w2 ⟨rfl, hb2⟩
  obtain ⟨least, hle⟩ : ∃ x, x = few (R : Int) ss [] := ⟨_, rfl⟩
  rw [← hle] at hBL ⊢
  have HB2 := Lib.hid hb2
  have hs2 := hb2.size
  obtain ⟨l1, l2, l3, l4⟩ := hBL
  have hm1 : (R : Int) * least ≤ 31 * least := Int.mul_le_mul_of_nonneg_right (by omega) l1
  have hm0 : 0 ≤ (R : Int) * least := Int.mul_nonneg (by omega) l1
  have hcm : least * (R : Int) = (R : Int) * least := Int.mul_comm _ _
  have q1 : 0 ≤ least * (R : Int) := by omega
  have q2 : least * (R : Int) ≤ 1000 := by omega
  have q3 : ¬ least * (R : Int) < tot := by omega
  have q4 : ¬ (used : Int) < least := by omega
  have q5 : ¬ 3 * least + 2 < 2 * (used : Int) := by omega
  clear hle hb2 hm1 hm0 hcm l3 l4
  go_upto_region 55 with (fail)
  exact join_part (by assumption) (packsE w0 w2 (HB.out.trans ((HB1.out.trans (HB2.out.mono hs1)).mono hs0)) HP.out ((HS1.out.below HB2.out hs1).mono (Nat.le_refl _) (Nat.le_trans hs1 hs2) (Nat.le_refl _)) ((HU.out.below HB2.out (Nat.le_refl _)).mono (Nat.le_refl _) hs2 (Nat.le_refl _)) HBN.out)
end Go.Proofs.Ytkankfdpodofjaa
