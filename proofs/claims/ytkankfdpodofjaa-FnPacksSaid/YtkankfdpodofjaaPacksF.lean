/-
  FnPacks, the packs are packs.
-/
import Derived.Test.YtkankfdpodofjaaPacksB
namespace Go.Proofs.Ytkankfdpodofjaa
open Go.RowKit
set_option linter.unusedVariables false
set_option maxRecDepth 100000

set_option maxHeartbeats 4000000 in
set_option maxRecDepth 100000 in
theorem packsF (w0 w : World) {u0 u1 u2 u3 u4 u10 u13 u16 u17 u18 u20 u23 u24 u25 u26 u27 u28 u29 u30 u31 u32 u33 u34 u35 u36 u37 u38 u39 u40 u41 u42 u43 u44 u45 u46 u47 u48 u49 u50 u51 u52 u53 u54 u55 u56 u57 u58 u59 u60 u61 u62 u63 u64 u65 u66 u67 u68 u69 u70 u71 u72 u73 u74 u75 u76 u77 u78 u79 u80 u81 u82 u83 u84 u85 u86 u87 u88 u89 u90 u91 u92 u93 u94 u95 u96 u97 u98 u99 u100 u101 u102 u103 u104 u105 u106 u107 u108 u109 u110 u111 u112 u113 u114 u115 u116 u117 u118 u119 u120 u121 u122 u123 u124 u125 u126 u127 u128 u129 u130 u131 u132 u133 u134 u135 u136 u137 u138 u139 u140 u141 u142 u143 u144 u145 u146 u147 u148 u149 u150 u151 u152 u153 u154 u155 u156 u157 u158 u159 u160 u161 u162 u163 u164 u165 u166 u167 u168 u169 u170 u171 u172 u173 u174 u175 u176 u177 u178 u179 u180 u181 u182 u183 u184 u185 u186 u187 u188 u189 u190 u191 u192 u193 u194 u195 u196 u197 u198 u199 u200 u201 u202 u203 u204 u205 u206 u207 u208 u209 u210 u211 u212 u213 u214 u215 u216 u217 u218 u219 u220 u221 u222 u223 u224 u225 u226 u227 u228 u229 u230 u231 u232 u233 u234 u235 u236 u237 u238 u239 u240 u241 u242 u243 u244 u245 u246 u247 u248 u249 u250 u251 u252 u253 u254 u255 u256 u257 u258 u259 u260 u261 u262 u263 u264 u265 u266 u267 u268 u269 u270 u271 u272 u273 u274 u275 u276 u277 u278 u279 u280 u281 u282 u283 u284 u285 u286 u287 u288 u289 u290 u291 u292 u293 u294 u295 u296 u297 u298 u299 u300 u301 u302 u303 u304 u305 u306 u307 u308 u309 u310 u311 u312 u313 u314 u315 u316 u317 u318 u319 u320 u321 u322 u323 u324 u325 u326 u327 u328 u329 u330 u331 u332 u333 u334 u335 u336 u337 u338 u339 u340 u341 u342 u343 u344 u345 u346 u347 u348 u349 u350 u351 u352 u353 u354 u355 u356 u357 u358 u359 u360 u361 u362 u363 u364 u365 u366 u367 u368 u369 u370 u371 u372 u373 u374 u375 u376 u377 u378 u379 u380 u381 u382 u383 u384 u385 u386 u387 u388 u389 u390 u391 u392 u393 u394 u395 u396 u397 u398 u399 u400 u401 u402 u403 u404 u405 u406 u407 u408 u409 u410 u411 u412 u413 u414 u415 u416 u417 u418 u419 u420 u421 u422 u423 : Value} {n R sb so sc gb go gc ab ao ac : Nat} {ss gs P Qk Ev : List Int} {gain ways gap less : Int} {pv qv ev : Value} (hB : Below w0.heap.size w0 w) (HPk : PkH n R ss gs) (hS : Ints w 0 w.heap.size (.slice (some ⟨sb, so, none⟩) n sc) ss) (hG : Ints w 0 w.heap.size (.slice (some ⟨gb, go, none⟩) n gc) gs) (hA : Ints w 0 w.heap.size (.slice (some ⟨ab, ao, none⟩) (R + 1) ac) (tabRow ss gs R n)) (hpv : Ints w 0 w.heap.size pv P) (hqv : Ints w 0 w.heap.size qv Qk) (hev : Ints w 0 w.heap.size ev Ev) (lp : PackL n P) (lq : PackL n Qk) (le : PackL n Ev) (np : P.length ≤ n) (nq : Qk.length ≤ n) (ne : Ev.length ≤ n) (sp : lSum ss P ≤ (R : Int)) (sq : lSum ss Qk ≤ (R : Int)) (gp : lSum gs P = gain) (gq : lSum gs Qk = less) (hf : farOf (pSum ss (fun _ => true) n) (lSum ss Ev) = gap) (hbest : bestTo ss gs n (R : Int) (2 ^ n) = gain) (hcnt : cntOf (fun m => decide (pSum ss (dgt m) n = (R : Int))) (2 ^ n) = ways) (hnear : nearTo ss n (pSum ss (fun _ => true) n) (2 ^ n) = gap) :
    Code.wp Try.prog (hdC (tlC 13 bodyOf)) (Exit.then (Code.wp Try.prog (tlC 14 bodyOf) (bodyPost Try.prog Try.f4 fun e w' => e = .returned (.bool true) ∧ Below w0.heap.size w0 w')) (bodyPost Try.prog Try.f4 fun e w' => e = .returned (.bool true) ∧ Below w0.heap.size w0 w')) ⟨#[u0, u1, u2, u3, u4, (.int .i64 (n : Int)), (.slice (some ⟨sb, so, none⟩) n sc), (.slice (some ⟨gb, go, none⟩) n gc), (.int .i64 (R : Int)), (.slice (some ⟨ab, ao, none⟩) (R + 1) ac), u10, pv, (.int .i64 gain), u13, qv, (.int .i64 less), u16, u17, u18, (.int .i64 ways), u20, ev, (.int .i64 gap), u23, u24, u25, u26, u27, u28, u29, u30, u31, u32, u33, u34, u35, u36, u37, u38, u39, u40, u41, u42, u43, u44, u45, u46, u47, u48, u49, u50, u51, u52, u53, u54, u55, u56, u57, u58, u59, u60, u61, u62, u63, u64, u65, u66, u67, u68, u69, u70, u71, u72, u73, u74, u75, u76, u77, u78, u79, u80, u81, u82, u83, u84, u85, u86, u87, u88, u89, u90, u91, u92, u93, u94, u95, u96, u97, u98, u99, u100, u101, u102, u103, u104, u105, u106, u107, u108, u109, u110, u111, u112, u113, u114, u115, u116, u117, u118, u119, u120, u121, u122, u123, u124, u125, u126, u127, u128, u129, u130, u131, u132, u133, u134, u135, u136, u137, u138, u139, u140, u141, u142, u143, u144, u145, u146, u147, u148, u149, u150, u151, u152, u153, u154, u155, u156, u157, u158, u159, u160, u161, u162, u163, u164, u165, u166, u167, u168, u169, u170, u171, u172, u173, u174, u175, u176, u177, u178, u179, u180, u181, u182, u183, u184, u185, u186, u187, u188, u189, u190, u191, u192, u193, u194, u195, u196, u197, u198, u199, u200, u201, u202, u203, u204, u205, u206, u207, u208, u209, u210, u211, u212, u213, u214, u215, u216, u217, u218, u219, u220, u221, u222, u223, u224, u225, u226, u227, u228, u229, u230, u231, u232, u233, u234, u235, u236, u237, u238, u239, u240, u241, u242, u243, u244, u245, u246, u247, u248, u249, u250, u251, u252, u253, u254, u255, u256, u257, u258, u259, u260, u261, u262, u263, u264, u265, u266, u267, u268, u269, u270, u271, u272, u273, u274, u275, u276, u277, u278, u279, u280, u281, u282, u283, u284, u285, u286, u287, u288, u289, u290, u291, u292, u293, u294, u295, u296, u297, u298, u299, u300, u301, u302, u303, u304, u305, u306, u307, u308, u309, u310, u311, u312, u313, u314, u315, u316, u317, u318, u319, u320, u321, u322, u323, u324, u325, u326, u327, u328, u329, u330, u331, u332, u333, u334, u335, u336, u337, u338, u339, u340, u341, u342, u343, u344, u345, u346, u347, u348, u349, u350, u351, u352, u353, u354, u355, u356, u357, u358, u359, u360, u361, u362, u363, u364, u365, u366, u367, u368, u369, u370, u371, u372, u373, u374, u375, u376, u377, u378, u379, u380, u381, u382, u383, u384, u385, u386, u387, u388, u389, u390, u391, u392, u393, u394, u395, u396, u397, u398, u399, u400, u401, u402, u403, u404, u405, u406, u407, u408, u409, u410, u411, u412, u413, u414, u415, u416, u417, u418, u419, u420, u421, u422, u423], []⟩ w := by
  conv => arg 2; whnf
  have h1 := HPk.n1
  have h7 := HPk.n7
  have hr1 := HPk.r1
  have hr2 := HPk.r2
  have HB := Lib.hid hB
  have HP := Lib.hid HPk
  have HS := Lib.hid hS
  have HG := Lib.hid hG
  have HA := Lib.hid hA
  have HF := Lib.hid hf
  have HBE := Lib.hid hbest
  have HCN := Lib.hid hcnt
  have HNE := Lib.hid hnear
  have HQV := Lib.hid hqv
  have HEV := Lib.hid hev
  have hs0 : w0.heap.size ≤ w.heap.size := hB.size
  obtain ⟨_, hsb, SC⟩ := hS.at' (Nat.le_refl _) h1
  have hpr := lSum_rng HPk.s0 Ev
  have hC1 := r8Pack_any (n := n) pv P _ ss _ gs w hpv hS hG (Nat.le_refl _) (Nat.le_refl _) lp h1 h7 HPk.ls HPk.lg np HPk.s0 HPk.g0
  have HC2 := Lib.hid (fun w1 (hd : Drew w w1) => r8Pack_any (n := n) qv Qk _ ss _ gs w1 (hqv.drew hd) (hS.drew hd) (hG.drew hd) (by rw [hd.heap]; exact Nat.le_refl _) (by rw [hd.heap]; exact Nat.le_refl _) lq h1 h7 HPk.ls HPk.lg nq HPk.s0 HPk.g0)
  have HC3 := Lib.hid (fun w1 (hd : Drew w w1) => r8Pack_any (n := n) ev Ev _ ss _ gs w1 (hev.drew hd) (hS.drew hd) (hG.drew hd) (by rw [hd.heap]; exact Nat.le_refl _) (by rw [hd.heap]; exact Nat.le_refl _) le h1 h7 HPk.ls HPk.lg ne HPk.s0 HPk.g0)
  rw [gp] at hC1
  rw [gq] at HC2
  have HC1 := Lib.hid hC1
  obtain ⟨part, hpart⟩ : ∃ x, x = lSum ss Ev := ⟨_, rfl⟩
  obtain ⟨xp, hxp⟩ : ∃ x, x = lSum ss P := ⟨_, rfl⟩
  obtain ⟨xq, hxq⟩ : ∃ x, x = lSum ss Qk := ⟨_, rfl⟩
  obtain ⟨gv, hgv⟩ : ∃ x, x = lSum gs Ev := ⟨_, rfl⟩
  rw [← hpart] at hpr HF HC3
  rw [← hxp] at sp HC1
  rw [← hxq] at sq HC2
  rw [← hgv] at HC3
  have q1 : ¬ (R : Int) < xp := by omega
  have q2 : ¬ (R : Int) < xq := by omega
  have hp84 : 0 ≤ part ∧ part ≤ 84 := by omega
  clear hB HPk hS hG hA hpv hqv hev lp lq le gp gq hf hbest hcnt hnear hC1 hpart hxp hxq hgv sp sq hpr
  go_wp2_with fail
  refine HC1.out.mono ?_
  rintro e w1 ⟨rfl, hd1⟩
  have hC2 := HC2.out w1 hd1
  have HD1 := Lib.hid hd1
  clear hd1 HC1 HC2
  go_wp2_with fail
  conv => arg 2; whnf
  go_wp2_with fail
  refine hC2.mono ?_
  rintro e w2 ⟨rfl, hd2⟩
  have hd2' := HD1.out.trans hd2
  have hC3 := HC3.out w2 hd2'
  have HD2 := Lib.hid hd2'
  clear hd2 hd2' HC3 hC2 HD1
  go_wp2_with fail
  refine hC3.mono ?_
  rintro e w3 ⟨rfl, hd3⟩
  have HD3 := Lib.hid (HD2.out.trans hd3)
  have hs3 : w3.heap.size = w.heap.size := by rw [HD3.out.heap]
  clear hd3 hC3 HD2
  go_wp2_with fail
  go_loopw [33, 34] (fun tv iv wr => ∃ (i : Nat) (x : Int), i ≤ n ∧ iv = .int .i64 i ∧ tv = .int .i64 x ∧ x = pSum ss (fun _ => true) i ∧ wr = w3) (fun _ iv _ => n - (intOf iv).toNat)
  case atStart => exact ⟨0, 0, Nat.zero_le _, rfl, rfl, rfl, rfl⟩
  case round =>
    obtain ⟨i, x, hi, rfl, rfl, hx, rfl⟩ := hrel
    have hxr := pSum_rng (p := fun _ => true) HP.out.s0 i
    rw [← hx] at hxr
    by_cases hin : i < n
    · have cs := SC.out wr i (HD3.out.below _) hin
      have b1 := HP.out.sAt hin
      have hx1 : pSum ss (fun _ => true) (i + 1) = pSum ss (fun _ => true) i + ss.getD i 0 := by rw [pSum]; simp
      rw [← hx] at hx1
      have zi : (i : Int) < (n : Int) := by omega
      obtain ⟨p, hp⟩ : ∃ p, p = ss.getD i 0 := ⟨_, rfl⟩
      rw [← hp] at cs b1 hx1
      have HX1 := Lib.hid hx1
      clear hp hx hx1
      go_wp2
      go_roundw
      case rel => exact ⟨i + 1, x + p, by omega, by go_num, by go_num, HX1.out.symm, by trivial⟩
      case measure => (simp [intOf]; try omega)
    · obtain rfl : i = n := by omega
      have HX := Lib.hid hx
      have hb3 : Below w.heap.size w wr := HD3.out.below _
      clear hx
      go_upto_region 25 with (fail)
      rw [HX.out]
      exact join_part (by assumption) (packsB0 w0 wr (HB.out.trans (hb3.mono hs0)) HP.out ((HS.out.drew HD3.out).mono (Nat.le_refl _) hb3.size (Nat.le_refl _)) ((HG.out.drew HD3.out).mono (Nat.le_refl _) hb3.size (Nat.le_refl _)) ((HA.out.drew HD3.out).mono (Nat.le_refl _) hb3.size (Nat.le_refl _)) hp84.1 hp84.2 HF.out HBE.out HCN.out HNE.out)
end Go.Proofs.Ytkankfdpodofjaa
