/-
  FnTours, the tours are tours (in whatever order).
-/
import Derived.Test.YtkankfdpodofjaaOrdI
import Derived.Test.YtkankfdpodofjaaCityI
import Derived.Deep.RegionHeld3
namespace Go.Proofs.Ytkankfdpodofjaa
open Go.RowKit
set_option linter.unusedVariables false
set_option maxRecDepth 100000

def regC (n : Nat) : Code → Option Code
  | .region m o d => if m = n then some (.region m o d) else none
  | .seq a b => match regC n a with
    | some c => some c
    | none => regC n b
  | .block _ c => regC n c
  | .scope c => regC n c
  | .cond _ a b => match regC n a with
    | some c => some c
    | none => regC n b
  | .loop c => regC n c
  | _ => none
set_option maxHeartbeats 16000000 in
set_option maxRecDepth 100000 in
theorem reg11 (w : World) {u0 u2 u3 u4 u7 u9 u11 u14 u17 u21 u22 u23 u24 u25 u26 u27 u28 u29 u30 u31 u32 u33 u34 u35 u36 u37 u38 u39 u40 u41 u42 u43 u44 u45 u46 u47 u48 u49 u50 u51 u52 u53 u54 u55 u56 u57 u58 u59 u60 u61 u62 u63 u64 u65 u66 u67 u68 u69 u70 u71 u72 u73 u74 u75 u76 u77 u78 u79 u80 u81 u82 u83 u84 u85 u86 u87 u88 u89 u90 u91 u92 u93 u94 u95 u96 u97 u98 u99 u100 u101 u102 u103 u104 u105 u106 u107 u108 u109 u110 u111 u112 u113 u114 u115 u116 u117 u118 u119 u120 u121 u122 u123 u124 u125 u126 u127 u128 u129 u130 u131 u132 u133 u134 u135 u136 u137 u138 u139 u140 u141 u142 u143 u144 u145 u146 u147 u148 u149 u150 u151 u152 u153 u154 u155 u156 u157 u158 u159 u160 u161 u162 u163 u164 u165 u166 u167 u168 u169 u170 u171 u172 u173 u174 u175 u176 u177 u178 u179 u180 u181 u182 u183 u184 u185 u186 u187 u188 u189 u190 u191 u192 u193 u194 u195 u196 u197 u198 u199 u200 u201 u202 u203 u204 u205 u206 u207 u208 u209 u210 u211 u212 u213 u214 u215 u216 u217 u218 u219 u220 u221 u222 u223 u224 u225 u226 u227 u228 u229 u230 u231 u232 u233 u234 u235 u236 u237 u238 u239 u240 u241 u242 u243 u244 u245 u246 u247 u248 u249 u250 u251 u252 u253 u254 u255 u256 u257 u258 u259 u260 u261 u262 u263 u264 u265 u266 u267 u268 u269 u270 u271 u272 u273 u274 u275 u276 u277 u278 u279 u280 u281 u282 u283 u284 u285 u286 u287 u288 u289 u290 u291 u292 u293 u294 u295 u296 u297 u298 u299 u300 u301 u302 u303 u304 u305 u306 u307 u308 u309 u310 u311 u312 u313 u314 u315 u316 u317 u318 u319 u320 u321 u322 u323 u324 u325 u326 u327 u328 u329 u330 u331 u332 u333 u334 u335 u336 u337 u338 u339 u340 u341 u342 u343 u344 u345 u346 u347 u348 u349 u350 u351 u352 u353 u354 u355 : Value} {v1 vS vM : Value} {n wb wo wl wc bb bo bc nb no nc : Nat} {f : Int}
    (hac : ∀ wx, Below w.heap.size w wx → Calls Try.prog 38 #[(.slice (some ⟨wb, wo, none⟩) wl wc)] wx fun e w' => e = .returned (.bool true) ∧ Drew wx w')
    (hta : ∀ wx, Below w.heap.size w wx → Calls Try.prog 39 #[.slice (some ⟨bb, bo, none⟩) n bc, .int .i64 n] wx fun e w' => e = .returned (.bool true) ∧ Below wx.heap.size wx w')
    (hts : ∀ wx, Below w.heap.size w wx → Calls Try.prog 39 #[vS, .int .i64 n] wx fun e w' => e = .returned (.bool true) ∧ Below wx.heap.size wx w')
    (htm : ∀ wx, Below w.heap.size w wx → Calls Try.prog 39 #[vM, .int .i64 n] wx fun e w' => e = .returned (.bool true) ∧ Below wx.heap.size wx w')
    (htn : ∀ wx, Below w.heap.size w wx → Calls Try.prog 39 #[.slice (some ⟨nb, no, none⟩) n nc, .int .i64 n] wx fun e w' => e = .returned (.bool true) ∧ Below wx.heap.size wx w')
    (hat : ∀ wx, Below w.heap.size w wx → Calls Try.prog 8 #[v1, .int .i64 41, .int .i64 n] wx fun e w' => e = .returned (.int .i64 f) ∧ wx = w')
    (c1 : w.cell? ⟨bb, bo, none⟩ = some (.int .i64 0)) (c2 : w.cell? ⟨nb, no, none⟩ = some (.int .i64 f)) (hbb : bb < w.heap.size) (hnb : nb < w.heap.size) (hn1 : 1 ≤ n)
    (K : Act → World → Prop) (Q : Exit → Act → World → Prop) (hK : ∀ (w' : World) (t86 t87 t88 t89 t90 t91 t92 t93 t94 t95 t96 t97 t98 t99 t100 t101 t102 t103 t104 t105 t106 t107 t108 t109 t110 t111 t112 t113 t114 t115 t116 t117 t118 t119 t120 t121 t122 t123 t124 t125 t126 t127 t128 t129 t130 t131 t132 t133 t134 t135 t136 t137 t138 t139 t140 t141 t142 t143 t144 t145 t146 : Value), Below w.heap.size w w' → K ⟨#[u0, v1, u2, u3, u4, (.int .i64 (n : Int)), (.slice (some ⟨wb, wo, none⟩) wl wc), u7, (.slice (some ⟨bb, bo, none⟩) n bc), u9, (.bool true), u11, (.bool true), vS, u14, (.bool true), vM, u17, (.bool true), (.slice (some ⟨nb, no, none⟩) n nc), (.bool true), u21, u22, u23, u24, u25, u26, u27, u28, u29, u30, u31, u32, u33, u34, u35, u36, u37, u38, u39, u40, u41, u42, u43, u44, u45, u46, u47, u48, u49, u50, u51, u52, u53, u54, u55, u56, u57, u58, u59, u60, u61, u62, u63, u64, u65, u66, u67, u68, u69, u70, u71, u72, u73, u74, u75, u76, u77, u78, u79, u80, u81, u82, u83, u84, u85, t86, t87, t88, t89, t90, t91, t92, t93, t94, t95, t96, t97, t98, t99, t100, t101, t102, t103, t104, t105, t106, t107, t108, t109, t110, t111, t112, t113, t114, t115, t116, t117, t118, t119, t120, t121, t122, t123, t124, t125, t126, t127, t128, t129, t130, t131, t132, t133, t134, t135, t136, t137, t138, t139, t140, t141, t142, t143, t144, t145, t146, (.bool false), u148, u149, u150, u151, u152, u153, u154, u155, u156, u157, u158, u159, u160, u161, u162, u163, u164, u165, u166, u167, u168, u169, u170, u171, u172, u173, u174, u175, u176, u177, u178, u179, u180, u181, u182, u183, u184, u185, u186, u187, u188, u189, u190, u191, u192, u193, u194, u195, u196, u197, u198, u199, u200, u201, u202, u203, u204, u205, u206, u207, u208, u209, u210, u211, u212, u213, u214, u215, u216, u217, u218, u219, u220, u221, u222, u223, u224, u225, u226, u227, u228, u229, u230, u231, u232, u233, u234, u235, u236, u237, u238, u239, u240, u241, u242, u243, u244, u245, u246, u247, u248, u249, u250, u251, u252, u253, u254, u255, u256, u257, u258, u259, u260, u261, u262, u263, u264, u265, u266, u267, u268, u269, u270, u271, u272, u273, u274, u275, u276, u277, u278, u279, u280, u281, u282, u283, u284, u285, u286, u287, u288, u289, u290, u291, u292, u293, u294, u295, u296, u297, u298, u299, u300, u301, u302, u303, u304, u305, u306, u307, u308, u309, u310, u311, u312, u313, u314, u315, u316, u317, u318, u319, u320, u321, u322, u323, u324, u325, u326, u327, u328, u329, u330, u331, u332, u333, u334, u335, u336, u337, u338, u339, u340, u341, u342, u343, u344, u345, u346, u347, u348, u349, u350, u351, u352, u353, u354, u355], []⟩ w') :
    Code.wp Try.prog ((regC 11 (Try.f6.body.getD .skip)).getD .skip) (Exit.then K Q) ⟨#[u0, v1, u2, u3, u4, (.int .i64 (n : Int)), (.slice (some ⟨wb, wo, none⟩) wl wc), u7, (.slice (some ⟨bb, bo, none⟩) n bc), u9, (.bool true), u11, (.bool true), vS, u14, (.bool true), vM, u17, (.bool true), (.slice (some ⟨nb, no, none⟩) n nc), (.bool true), u21, u22, u23, u24, u25, u26, u27, u28, u29, u30, u31, u32, u33, u34, u35, u36, u37, u38, u39, u40, u41, u42, u43, u44, u45, u46, u47, u48, u49, u50, u51, u52, u53, u54, u55, u56, u57, u58, u59, u60, u61, u62, u63, u64, u65, u66, u67, u68, u69, u70, u71, u72, u73, u74, u75, u76, u77, u78, u79, u80, u81, u82, u83, u84, u85, u86, u87, u88, u89, u90, u91, u92, u93, u94, u95, u96, u97, u98, u99, u100, u101, u102, u103, u104, u105, u106, u107, u108, u109, u110, u111, u112, u113, u114, u115, u116, u117, u118, u119, u120, u121, u122, u123, u124, u125, u126, u127, u128, u129, u130, u131, u132, u133, u134, u135, u136, u137, u138, u139, u140, u141, u142, u143, u144, u145, u146, u147, u148, u149, u150, u151, u152, u153, u154, u155, u156, u157, u158, u159, u160, u161, u162, u163, u164, u165, u166, u167, u168, u169, u170, u171, u172, u173, u174, u175, u176, u177, u178, u179, u180, u181, u182, u183, u184, u185, u186, u187, u188, u189, u190, u191, u192, u193, u194, u195, u196, u197, u198, u199, u200, u201, u202, u203, u204, u205, u206, u207, u208, u209, u210, u211, u212, u213, u214, u215, u216, u217, u218, u219, u220, u221, u222, u223, u224, u225, u226, u227, u228, u229, u230, u231, u232, u233, u234, u235, u236, u237, u238, u239, u240, u241, u242, u243, u244, u245, u246, u247, u248, u249, u250, u251, u252, u253, u254, u255, u256, u257, u258, u259, u260, u261, u262, u263, u264, u265, u266, u267, u268, u269, u270, u271, u272, u273, u274, u275, u276, u277, u278, u279, u280, u281, u282, u283, u284, u285, u286, u287, u288, u289, u290, u291, u292, u293, u294, u295, u296, u297, u298, u299, u300, u301, u302, u303, u304, u305, u306, u307, u308, u309, u310, u311, u312, u313, u314, u315, u316, u317, u318, u319, u320, u321, u322, u323, u324, u325, u326, u327, u328, u329, u330, u331, u332, u333, u334, u335, u336, u337, u338, u339, u340, u341, u342, u343, u344, u345, u346, u347, u348, u349, u350, u351, u352, u353, u354, u355], []⟩ w := by
  conv => arg 2; whnf
  have HAC := Lib.hid hac
  have HTA := Lib.hid hta
  have HTS := Lib.hid hts
  have HTM := Lib.hid htm
  have HTN := Lib.hid htn
  have HAT := Lib.hid hat
  have HKS : Hid (∀ wx, Below w.heap.size w wx → wx.cell? ⟨bb, bo, none⟩ = some (.int .i64 0) ∧ wx.cell? ⟨nb, no, none⟩ = some (.int .i64 f)) := fun wx hx => by
    rw [hx.cell (p := ⟨bb, bo, none⟩) hbb, hx.cell (p := ⟨nb, no, none⟩) hnb]
    exact ⟨c1, c2⟩
  have kD : Below w.heap.size w w.drew := (show Drew w w.drew from ⟨1, rfl⟩).below _
  have n0 : (0 : Int) < (n : Int) := by omega
  have n1 : 0 < n := by omega
  clear hac hta hts htm htn hat c1 c2
  go_region_held3 (fun w' => w'.cell? ⟨bb, bo, none⟩ = some (.int .i64 0) ∧ w'.cell? ⟨nb, no, none⟩ = some (.int .i64 f)) ((refine HKS.out _ ?_; first | assumption | exact Below.refl _ _)) (first | (go_at_call 8; refine (HAT.out _ (by (first | assumption | exact Below.refl _ _))).mono ?_; rintro e wz ⟨rfl, rfl⟩) | (go_at_call 38; refine (HAC.out _ (by (first | assumption | exact Below.refl _ _))).mono ?_; rintro e wz ⟨rfl, hdz⟩; have kz : Below w.heap.size w wz := Below.trans (by (first | assumption | exact Below.refl _ _)) (hdz.below _)) | (go_at_call 39; (first | with_reducible refine (HTA.out _ (by (first | assumption | exact Below.refl _ _))).mono ?_ | with_reducible refine (HTS.out _ (by (first | assumption | exact Below.refl _ _))).mono ?_ | with_reducible refine (HTM.out _ (by (first | assumption | exact Below.refl _ _))).mono ?_ | with_reducible refine (HTN.out _ (by (first | assumption | exact Below.refl _ _))).mono ?_); rintro e wz ⟨rfl, hbz⟩; have kz : Below w.heap.size w wz := Below.trans (by (first | assumption | exact Below.refl _ _)) (hbz.mono (Below.size (by (first | assumption | exact Below.refl _ _))))))
  all_goals
    show K _ _
    exact hK _ _ _ _ _ _ _ _ _ _ _ _ _ _ _ _ _ _ _ _ _ _ _ _ _ _ _ _ _ _ _ _ _ _ _ _ _ _ _ _ _ _ _ _ _ _ _ _ _ _ _ _ _ _ _ _ _ _ _ _ _ _ (by (first | assumption | exact Below.refl _ _))
end Go.Proofs.Ytkankfdpodofjaa
