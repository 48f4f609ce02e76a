/-
  FnTours, from ToursShared on.
-/
import Derived.Test.YtkankfdpodofjaaToursI
import Derived.Test.YtkankfdpodofjaaOrdI
import Derived.BigQuiet
import Derived.Deep.DeepCutAuto
namespace Go.Proofs.Ytkankfdpodofjaa
open Go.RowKit
set_option linter.unusedVariables false
set_option maxRecDepth 100000

def tlC : Nat → Code → Code
  | 0, c => c
  | n + 1, .seq _ b => tlC n b
  | _, c => c
def hdC : Code → Code
  | .seq a _ => a
  | c => c
theorem join_part {P : Program} {x y : Code} {Q : Exit → Act → World → Prop} {a : Act} {w : World} {K : Act → World → Prop} (hK : ∀ a w, Code.wp P y Q a w → K a w)
    (h : Code.wp P x (Exit.then (Code.wp P y Q) Q) a w) : Code.wp P x (Exit.then K Q) a w :=
  Code.wp_mono (fun e a w h => by cases e <;> first | exact hK _ _ h | exact h) h
noncomputable def bodyOf : Code := Try.f6.body.getD .skip
set_option maxHeartbeats 4000000 in
set_option maxRecDepth 100000 in
theorem tours21 (w0 w : World) {u0 u1 u2 u3 u4 u6 u7 u8 u10 u11 u12 u13 u14 u15 u16 u17 u18 u19 u20 u21 u22 u23 u24 u25 u26 u27 u28 u29 u30 u31 u32 u33 u34 u36 u38 u39 u40 u41 u42 u43 u44 u45 u46 u47 u48 u49 u50 u51 u52 u53 u54 u55 u56 u57 u58 u59 u60 u61 u62 u63 u64 u65 u66 u67 u68 u69 u70 u71 u72 u73 u74 u75 u76 u77 u78 u79 u80 u81 u82 u83 u84 u85 u86 u87 u88 u89 u90 u91 u92 u93 u94 u95 u96 u97 u98 u99 u100 u101 u102 u103 u104 u105 u106 u107 u108 u109 u110 u111 u112 u113 u114 u115 u116 u117 u118 u119 u120 u121 u122 u123 u124 u125 u126 u127 u128 u129 u130 u131 u132 u133 u134 u135 u136 u137 u138 u139 u140 u141 u142 u143 u144 u145 u146 u147 u148 u149 u150 u151 u152 u153 u154 u155 u156 u157 u158 u159 u160 u161 u162 u163 u164 u165 u166 u167 u168 u169 u170 u171 u172 u173 u174 u175 u176 u177 u178 u179 u180 u181 u182 u183 u184 u185 u186 u187 u188 u189 u190 u191 u192 u193 u194 u195 u196 u197 u198 u199 u200 u201 u202 u203 u204 u205 u206 u207 u208 u209 u210 u211 u212 u213 u214 u215 u216 u217 u218 u219 u220 u221 u222 u223 u224 u225 u226 u227 u228 u229 u230 u231 u232 u233 u234 u235 u236 u237 u238 u239 u240 u241 u242 u243 u244 u245 u246 u247 u248 u249 u250 u251 u252 u253 u254 u255 u256 u257 u258 u259 u260 u261 u262 u263 u264 u265 u266 u267 u268 u269 u270 u271 u272 u273 u274 u275 u276 u277 u278 u279 u280 u281 u282 u283 u284 u285 u286 u287 u288 u289 u290 u291 u292 u293 u294 u295 u296 u297 u298 u299 u300 u301 u302 u303 u304 u305 u306 u307 u308 u309 u310 u311 u312 u313 u314 u315 u316 u317 u318 u319 u320 u321 u322 u323 u324 u325 u326 u327 u328 u329 u330 u331 u332 u333 u334 u335 u336 u337 u338 u339 u340 u341 u342 u343 u344 u345 u346 u347 u348 u349 u350 u351 u352 u353 u354 u355 : Value} {n lb lo lc sb so sc : Nat} {least : Int} {g : Nat → Int} (hB : Below w0.heap.size w0 w) (hn7 : n ≤ 7) (h1 : ∀ i, i < n → w.cell? ⟨lb, lo + i, none⟩ = some (.int .i64 (g i))) (h2 : ∀ i, i < n → w.cell? ⟨sb, so + i, none⟩ = some (.int .i64 (g i))) (hlb : lb < w.heap.size) (hsb : sb < w.heap.size) (hg : ∀ i, i < n → least ≤ g i) :
    Code.wp Try.prog (hdC (tlC 21 bodyOf)) (Exit.then (Code.wp Try.prog (tlC 22 bodyOf) (bodyPost Try.prog Try.f6 fun e w' => e = .returned (.bool true) ∧ Below w0.heap.size w0 w')) (bodyPost Try.prog Try.f6 fun e w' => e = .returned (.bool true) ∧ Below w0.heap.size w0 w')) ⟨#[u0, u1, u2, u3, u4, (.int .i64 (n : Int)), u6, u7, u8, (.int .i64 least), u10, u11, u12, u13, u14, u15, u16, u17, u18, u19, u20, u21, u22, u23, u24, u25, u26, u27, u28, u29, u30, u31, u32, u33, u34, (.slice (some ⟨lb, lo, none⟩) n lc), u36, (.slice (some ⟨sb, so, none⟩) n sc), u38, u39, u40, u41, u42, u43, u44, u45, u46, u47, u48, u49, u50, u51, u52, u53, u54, u55, u56, u57, u58, u59, u60, u61, u62, u63, u64, u65, u66, u67, u68, u69, u70, u71, u72, u73, u74, u75, u76, u77, u78, u79, u80, u81, u82, u83, u84, u85, u86, u87, u88, u89, u90, u91, u92, u93, u94, u95, u96, u97, u98, u99, u100, u101, u102, u103, u104, u105, u106, u107, u108, u109, u110, u111, u112, u113, u114, u115, u116, u117, u118, u119, u120, u121, u122, u123, u124, u125, u126, u127, u128, u129, u130, u131, u132, u133, u134, u135, u136, u137, u138, u139, u140, u141, u142, u143, u144, u145, u146, u147, u148, u149, u150, u151, u152, u153, u154, u155, u156, u157, u158, u159, u160, u161, u162, u163, u164, u165, u166, u167, u168, u169, u170, u171, u172, u173, u174, u175, u176, u177, u178, u179, u180, u181, u182, u183, u184, u185, u186, u187, u188, u189, u190, u191, u192, u193, u194, u195, u196, u197, u198, u199, u200, u201, u202, u203, u204, u205, u206, u207, u208, u209, u210, u211, u212, u213, u214, u215, u216, u217, u218, u219, u220, u221, u222, u223, u224, u225, u226, u227, u228, u229, u230, u231, u232, u233, u234, u235, u236, u237, u238, u239, u240, u241, u242, u243, u244, u245, u246, u247, u248, u249, u250, u251, u252, u253, u254, u255, u256, u257, u258, u259, u260, u261, u262, u263, u264, u265, u266, u267, u268, u269, u270, u271, u272, u273, u274, u275, u276, u277, u278, u279, u280, u281, u282, u283, u284, u285, u286, u287, u288, u289, u290, u291, u292, u293, u294, u295, u296, u297, u298, u299, u300, u301, u302, u303, u304, u305, u306, u307, u308, u309, u310, u311, u312, u313, u314, u315, u316, u317, u318, u319, u320, u321, u322, u323, u324, u325, u326, u327, u328, u329, u330, u331, u332, u333, u334, u335, u336, u337, u338, u339, u340, u341, u342, u343, u344, u345, u346, u347, u348, u349, u350, u351, u352, u353, u354, u355], []⟩ w := by
  conv => arg 2; whnf
  have hs0 : w0.heap.size ≤ w.heap.size := hB.size
  have HB := Lib.hid hB
  have H1 := Lib.hid h1
  have H2 := Lib.hid h2
  have HG := Lib.hid hg
  clear hB h1 h2 hg
  go_wp2_with fail
  go_loopw [39] (fun iv wr => ∃ i : Nat, i ≤ n ∧ iv = .int .i64 i ∧ Hid (Drew w wr)) (fun iv _ => n - (intOf iv).toNat)
  case atStart => exact ⟨0, Nat.zero_le _, rfl, Drew.refl _⟩
  case round =>
    obtain ⟨i, hi, rfl, HD⟩ := hrel
    by_cases hin : i < n
    · have c1 := H1.out i hin
      have c2 := H2.out i hin
      have hle := HG.out i hin
      obtain ⟨x, hx⟩ : ∃ x, x = g i := ⟨_, rfl⟩
      rw [← hx] at c1 c2 hle
      have c3 : wr.cell? ⟨lb, lo + i, none⟩ = some (.int .i64 x) := by rw [HD.out.cell]; exact c1
      have c4 : wr.cell? ⟨sb, so + i, none⟩ = some (.int .i64 x) := by rw [HD.out.cell]; exact c2
      have i1 : (i : Int) < (n : Int) := by omega
      have g1 : ¬ x < least := by omega
      have g2 : decide (x < least) = false := decide_eq_false g1
      clear c1 c2 hx
      go_wp2_with fail
      go_quiet (fail)
      go_wp2
      go_roundw
      case rel => exact ⟨i + 1, by omega, by go_num, HD.out.step _⟩
      case measure => simp [intOf]; omega
    · obtain rfl : i = n := by omega
      go_wp2_with fail
      conv => arg 2; whnf
      go_wp2
      go_ret
      exact ⟨rfl, HB.out.trans ((HD.out.below w.heap.size).mono hs0)⟩
set_option maxHeartbeats 4000000 in
set_option maxRecDepth 100000 in
theorem tours20 (w0 w : World) {u0 u1 u2 u3 u4 u6 u7 u8 u10 u11 u12 u13 u14 u15 u16 u17 u18 u19 u20 u21 u22 u23 u24 u25 u26 u27 u28 u29 u30 u31 u32 u33 u34 u39 u40 u41 u42 u43 u44 u45 u46 u47 u48 u49 u50 u51 u52 u53 u54 u55 u56 u57 u58 u59 u60 u61 u62 u63 u64 u65 u66 u67 u68 u69 u70 u71 u72 u73 u74 u75 u76 u77 u78 u79 u80 u81 u82 u83 u84 u85 u86 u87 u88 u89 u90 u91 u92 u93 u94 u95 u96 u97 u98 u99 u100 u101 u102 u103 u104 u105 u106 u107 u108 u109 u110 u111 u112 u113 u114 u115 u116 u117 u118 u119 u120 u121 u122 u123 u124 u125 u126 u127 u128 u129 u130 u131 u132 u133 u134 u135 u136 u137 u138 u139 u140 u141 u142 u143 u144 u145 u146 u147 u148 u149 u150 u151 u152 u153 u154 u155 u156 u157 u158 u159 u160 u161 u162 u163 u164 u165 u166 u167 u168 u169 u170 u171 u172 u173 u174 u175 u176 u177 u178 u179 u180 u181 u182 u183 u184 u185 u186 u187 u188 u189 u190 u191 u192 u193 u194 u195 u196 u197 u198 u199 u200 u201 u202 u203 u204 u205 u206 u207 u208 u209 u210 u211 u212 u213 u214 u215 u216 u217 u218 u219 u220 u221 u222 u223 u224 u225 u226 u227 u228 u229 u230 u231 u232 u233 u234 u235 u236 u237 u238 u239 u240 u241 u242 u243 u244 u245 u246 u247 u248 u249 u250 u251 u252 u253 u254 u255 u256 u257 u258 u259 u260 u261 u262 u263 u264 u265 u266 u267 u268 u269 u270 u271 u272 u273 u274 u275 u276 u277 u278 u279 u280 u281 u282 u283 u284 u285 u286 u287 u288 u289 u290 u291 u292 u293 u294 u295 u296 u297 u298 u299 u300 u301 u302 u303 u304 u305 u306 u307 u308 u309 u310 u311 u312 u313 u314 u315 u316 u317 u318 u319 u320 u321 u322 u323 u324 u325 u326 u327 u328 u329 u330 u331 u332 u333 u334 u335 u336 u337 u338 u339 u340 u341 u342 u343 u344 u345 u346 u347 u348 u349 u350 u351 u352 u353 u354 u355 : Value} {n lb lo lc sb so sc : Nat} {least : Int} {g : Nat → Int} (hB : Below w0.heap.size w0 w) (hn7 : n ≤ 7) (h1 : ∀ i, i < n → w.cell? ⟨lb, lo + i, none⟩ = some (.int .i64 (g i))) (h2 : ∀ i, i < n → w.cell? ⟨sb, so + i, none⟩ = some (.int .i64 (g i))) (hlb : lb < w.heap.size) (hsb : sb < w.heap.size) (hg : ∀ i, i < n → least ≤ g i) :
    Code.wp Try.prog (hdC (tlC 20 bodyOf)) (Exit.then (Code.wp Try.prog (tlC 21 bodyOf) (bodyPost Try.prog Try.f6 fun e w' => e = .returned (.bool true) ∧ Below w0.heap.size w0 w')) (bodyPost Try.prog Try.f6 fun e w' => e = .returned (.bool true) ∧ Below w0.heap.size w0 w')) ⟨#[u0, u1, u2, u3, u4, (.int .i64 (n : Int)), u6, u7, u8, (.int .i64 least), u10, u11, u12, u13, u14, u15, u16, u17, u18, u19, u20, u21, u22, u23, u24, u25, u26, u27, u28, u29, u30, u31, u32, u33, u34, (.slice (some ⟨lb, lo, none⟩) n lc), (.bool true), (.slice (some ⟨sb, so, none⟩) n sc), (.bool true), u39, u40, u41, u42, u43, u44, u45, u46, u47, u48, u49, u50, u51, u52, u53, u54, u55, u56, u57, u58, u59, u60, u61, u62, u63, u64, u65, u66, u67, u68, u69, u70, u71, u72, u73, u74, u75, u76, u77, u78, u79, u80, u81, u82, u83, u84, u85, u86, u87, u88, u89, u90, u91, u92, u93, u94, u95, u96, u97, u98, u99, u100, u101, u102, u103, u104, u105, u106, u107, u108, u109, u110, u111, u112, u113, u114, u115, u116, u117, u118, u119, u120, u121, u122, u123, u124, u125, u126, u127, u128, u129, u130, u131, u132, u133, u134, u135, u136, u137, u138, u139, u140, u141, u142, u143, u144, u145, u146, u147, u148, u149, u150, u151, u152, u153, u154, u155, u156, u157, u158, u159, u160, u161, u162, u163, u164, u165, u166, u167, u168, u169, u170, u171, u172, u173, u174, u175, u176, u177, u178, u179, u180, u181, u182, u183, u184, u185, u186, u187, u188, u189, u190, u191, u192, u193, u194, u195, u196, u197, u198, u199, u200, u201, u202, u203, u204, u205, u206, u207, u208, u209, u210, u211, u212, u213, u214, u215, u216, u217, u218, u219, u220, u221, u222, u223, u224, u225, u226, u227, u228, u229, u230, u231, u232, u233, u234, u235, u236, u237, u238, u239, u240, u241, u242, u243, u244, u245, u246, u247, u248, u249, u250, u251, u252, u253, u254, u255, u256, u257, u258, u259, u260, u261, u262, u263, u264, u265, u266, u267, u268, u269, u270, u271, u272, u273, u274, u275, u276, u277, u278, u279, u280, u281, u282, u283, u284, u285, u286, u287, u288, u289, u290, u291, u292, u293, u294, u295, u296, u297, u298, u299, u300, u301, u302, u303, u304, u305, u306, u307, u308, u309, u310, u311, u312, u313, u314, u315, u316, u317, u318, u319, u320, u321, u322, u323, u324, u325, u326, u327, u328, u329, u330, u331, u332, u333, u334, u335, u336, u337, u338, u339, u340, u341, u342, u343, u344, u345, u346, u347, u348, u349, u350, u351, u352, u353, u354, u355], []⟩ w := by
  conv => arg 2; whnf
  have HB := Lib.hid hB
  have H1 := Lib.hid h1
  have H2 := Lib.hid h2
  have HG := Lib.hid hg
  clear hB h1 h2 hg
  go_wp2_with fail
  conv => arg 2; whnf
  refine wp_seq ?_
  exact tours21 w0 w HB.out hn7 H1.out H2.out hlb hsb HG.out
set_option maxHeartbeats 4000000 in
set_option maxRecDepth 100000 in
theorem tours19 (w0 w : World) {u0 u2 u3 u4 u7 u8 u10 u11 u12 u13 u14 u15 u16 u17 u18 u19 u20 u21 u22 u23 u24 u25 u26 u27 u28 u29 u30 u31 u32 u33 u34 u37 u38 u39 u40 u41 u42 u43 u44 u45 u46 u47 u48 u49 u50 u51 u52 u53 u54 u55 u56 u57 u58 u59 u60 u61 u62 u63 u64 u65 u66 u67 u68 u69 u70 u71 u72 u73 u74 u75 u76 u77 u78 u79 u80 u81 u82 u83 u84 u85 u86 u87 u88 u89 u90 u91 u92 u93 u94 u95 u96 u97 u98 u99 u100 u101 u102 u103 u104 u105 u106 u107 u108 u109 u110 u111 u112 u113 u114 u115 u116 u117 u118 u119 u120 u121 u122 u123 u124 u125 u126 u127 u128 u129 u130 u131 u132 u133 u134 u135 u136 u137 u138 u139 u140 u141 u142 u143 u144 u145 u146 u147 u148 u149 u150 u151 u152 u153 u154 u155 u156 u157 u158 u159 u160 u161 u162 u163 u164 u165 u166 u167 u168 u169 u170 u171 u172 u173 u174 u175 u176 u177 u178 u179 u180 u181 u182 u183 u184 u185 u186 u187 u188 u189 u190 u191 u192 u193 u194 u195 u196 u197 u198 u199 u200 u201 u202 u203 u204 u205 u206 u207 u208 u209 u210 u211 u212 u213 u214 u215 u216 u217 u218 u219 u220 u221 u222 u223 u224 u225 u226 u227 u228 u229 u230 u231 u232 u233 u234 u235 u236 u237 u238 u239 u240 u241 u242 u243 u244 u245 u246 u247 u248 u249 u250 u251 u252 u253 u254 u255 u256 u257 u258 u259 u260 u261 u262 u263 u264 u265 u266 u267 u268 u269 u270 u271 u272 u273 u274 u275 u276 u277 u278 u279 u280 u281 u282 u283 u284 u285 u286 u287 u288 u289 u290 u291 u292 u293 u294 u295 u296 u297 u298 u299 u300 u301 u302 u303 u304 u305 u306 u307 u308 u309 u310 u311 u312 u313 u314 u315 u316 u317 u318 u319 u320 u321 u322 u323 u324 u325 u326 u327 u328 u329 u330 u331 u332 u333 u334 u335 u336 u337 u338 u339 u340 u341 u342 u343 u344 u345 u346 u347 u348 u349 u350 u351 u352 u353 u354 u355 : Value} {v1 : Value} {z1 : List Int} {n wb wo wl wc : Nat} {ws : List Int} {least : Int} (hB : Below w0.heap.size w0 w) (h1 : Byts w0 0 w0.heap.size v1 z1) (hv : Ints w 0 w.heap.size (.slice (some ⟨wb, wo, none⟩) wl wc) ws) (hc : CitN ws n) (hn7 : n ≤ 7) (hls : ∀ A, TourN A n → least ≤ longP ws n A) {lb lo lc : Nat} (hl : Ints w 0 w.heap.size (.slice (some ⟨lb, lo, none⟩) n lc) (sharedTo ws n n)) :
    Code.wp Try.prog (hdC (tlC 19 bodyOf)) (Exit.then (Code.wp Try.prog (tlC 20 bodyOf) (bodyPost Try.prog Try.f6 fun e w' => e = .returned (.bool true) ∧ Below w0.heap.size w0 w')) (bodyPost Try.prog Try.f6 fun e w' => e = .returned (.bool true) ∧ Below w0.heap.size w0 w')) ⟨#[u0, v1, u2, u3, u4, (.int .i64 (n : Int)), (.slice (some ⟨wb, wo, none⟩) wl wc), u7, u8, (.int .i64 least), u10, u11, u12, u13, u14, u15, u16, u17, u18, u19, u20, u21, u22, u23, u24, u25, u26, u27, u28, u29, u30, u31, u32, u33, u34, (.slice (some ⟨lb, lo, none⟩) n lc), (.bool true), u37, u38, u39, u40, u41, u42, u43, u44, u45, u46, u47, u48, u49, u50, u51, u52, u53, u54, u55, u56, u57, u58, u59, u60, u61, u62, u63, u64, u65, u66, u67, u68, u69, u70, u71, u72, u73, u74, u75, u76, u77, u78, u79, u80, u81, u82, u83, u84, u85, u86, u87, u88, u89, u90, u91, u92, u93, u94, u95, u96, u97, u98, u99, u100, u101, u102, u103, u104, u105, u106, u107, u108, u109, u110, u111, u112, u113, u114, u115, u116, u117, u118, u119, u120, u121, u122, u123, u124, u125, u126, u127, u128, u129, u130, u131, u132, u133, u134, u135, u136, u137, u138, u139, u140, u141, u142, u143, u144, u145, u146, u147, u148, u149, u150, u151, u152, u153, u154, u155, u156, u157, u158, u159, u160, u161, u162, u163, u164, u165, u166, u167, u168, u169, u170, u171, u172, u173, u174, u175, u176, u177, u178, u179, u180, u181, u182, u183, u184, u185, u186, u187, u188, u189, u190, u191, u192, u193, u194, u195, u196, u197, u198, u199, u200, u201, u202, u203, u204, u205, u206, u207, u208, u209, u210, u211, u212, u213, u214, u215, u216, u217, u218, u219, u220, u221, u222, u223, u224, u225, u226, u227, u228, u229, u230, u231, u232, u233, u234, u235, u236, u237, u238, u239, u240, u241, u242, u243, u244, u245, u246, u247, u248, u249, u250, u251, u252, u253, u254, u255, u256, u257, u258, u259, u260, u261, u262, u263, u264, u265, u266, u267, u268, u269, u270, u271, u272, u273, u274, u275, u276, u277, u278, u279, u280, u281, u282, u283, u284, u285, u286, u287, u288, u289, u290, u291, u292, u293, u294, u295, u296, u297, u298, u299, u300, u301, u302, u303, u304, u305, u306, u307, u308, u309, u310, u311, u312, u313, u314, u315, u316, u317, u318, u319, u320, u321, u322, u323, u324, u325, u326, u327, u328, u329, u330, u331, u332, u333, u334, u335, u336, u337, u338, u339, u340, u341, u342, u343, u344, u345, u346, u347, u348, u349, u350, u351, u352, u353, u354, u355], []⟩ w := by
  conv => arg 2; whnf
  have hs0 : w0.heap.size ≤ w.heap.size := hB.size
  have HB := Lib.hid hB
  have HY1 := Lib.hid h1
  have HV : Hid (∀ wx, Below w.heap.size w wx → Ints wx 0 w.heap.size (.slice (some ⟨wb, wo, none⟩) wl wc) ws) := fun wx hx => hv.below hx (Nat.le_refl _)
  have HC := Lib.hid hc
  have HLS := Lib.hid hls
  have hn1 : 1 ≤ n := hc.le.1
  clear hB h1 hv hc hls
  have HAT := Lib.hid (r8At_any v1 z1 42 8 w (HY1.out.below HB.out (Nat.le_refl _)) (by decide) (by decide) (by decide))
  have har := at8_rng z1 42 8 (by decide)
  obtain ⟨a, ha⟩ : ∃ a, a = at8 z1 42 8 := ⟨_, rfl⟩
  simp only [show ((42 : Nat) : Int) = 42 from rfl, ← ha] at HAT
  rw [← ha] at har
  have hwa : IntKind.i64.wrap (1 + a) = 1 + a := IntWalk.i64_in _ (by omega)
  have hin : inB 1 8 (1 + a) = true := by unfold inB; rw [decide_eq_true (show (1 : Int) ≤ 1 + a by omega), decide_eq_true (show (1 : Int) + a ≤ 8 by omega)]; rfl
  have HL := Lib.hid hl
  clear ha hl
  go_wp2_with fail
  refine HAT.out.mono ?_
  rintro e w' ⟨rfl, rfl⟩
  go_wp2_with fail
  refine (implToursShared_yes w _ ws (1 + a) n (HV.out w (Below.refl _ _)) (Nat.le_refl _) HC.out hin).mono ?_
  rintro e w2 ⟨u, rfl, ho2, hb2⟩
  have hsr := ho2.rd.mono (Nat.zero_le _) (Nat.le_refl _) (Nat.le_refl _)
  obtain ⟨sa, sc, se, s1, s2, sd⟩ := hsr.out
  rw [sharedTo_len] at se
  subst se
  rcases sd with sd | ⟨sb, so, rfl, q1, q2, q3, scell⟩
  · exfalso
    have := congrArg List.length sd
    rw [sharedTo_len] at this
    simp at this; omega
  rw [sharedTo_len] at scell
  obtain ⟨la, lc', le, l1, l2, ld⟩ := HL.out.out
  rw [sharedTo_len] at le
  injection le with le1 le2 le3
  rcases ld with ld | ⟨lb', lo', le4, r1, r2, r3, lcell⟩
  · exfalso
    have := congrArg List.length ld
    rw [sharedTo_len] at this
    simp at this; omega
  rw [← le1] at le4
  injection le4 with le5
  injection le5 with le6 le7 le8
  subst le6 le7
  rw [sharedTo_len] at lcell
  have hz2 := hb2.size
  have HB2 := Lib.hid hb2
  have hgd : ∀ i, i < n → (sharedTo ws n n).getD i 0 = sharedOne ws n i := fun i hi => by simp [sharedTo, List.getD, hi]
  have x1 : ∀ i, i < n → w2.cell? ⟨lb, lo + i, none⟩ = some (.int .i64 (sharedOne ws n i)) := fun i hi => by
    rw [HB2.out.cell (p := ⟨lb, lo + i, none⟩) r2, lcell i hi, hgd i hi]
  have x2 : ∀ i, i < n → w2.cell? ⟨sb, so + i, none⟩ = some (.int .i64 (sharedOne ws n i)) := fun i hi => by
    rw [scell i hi, hgd i hi]
  have X1 := Lib.hid x1
  have X2 := Lib.hid x2
  have hlb : lb < w2.heap.size := by omega
  have hsb : sb < w2.heap.size := by omega
  have HG : Hid (∀ i, i < n → least ≤ sharedOne ws n i) := fun i hi => HLS.out _ ((smGo_run (ws := ws) _ _ 0 (nearF (wayOf ws n) (n := n) (f := (i : Int)) hn1 (by omega) (by omega)).tn).tn)
  clear ho2 hb2 hsr scell lcell x1 x2 hgd le1 le2 le3 le8 l1 l2
  go_wp2_with fail
  conv => arg 2; whnf
  refine wp_seq ?_
  exact tours20 w0 w2 (HB.out.trans (HB2.out.mono hs0)) hn7 X1.out X2.out hlb hsb HG.out
set_option maxHeartbeats 4000000 in
set_option maxRecDepth 100000 in
theorem tours18 (w0 w : World) {u0 u2 u3 u4 u7 u8 u10 u11 u12 u13 u14 u15 u16 u17 u18 u19 u20 u21 u22 u23 u24 u25 u26 u27 u28 u29 u30 u31 u32 u33 u34 u35 u36 u37 u38 u39 u40 u41 u42 u43 u44 u45 u46 u47 u48 u49 u50 u51 u52 u53 u54 u55 u56 u57 u58 u59 u60 u61 u62 u63 u64 u65 u66 u67 u68 u69 u70 u71 u72 u73 u74 u75 u76 u77 u78 u79 u80 u81 u82 u83 u84 u85 u86 u87 u88 u89 u90 u91 u92 u93 u94 u95 u96 u97 u98 u99 u100 u101 u102 u103 u104 u105 u106 u107 u108 u109 u110 u111 u112 u113 u114 u115 u116 u117 u118 u119 u120 u121 u122 u123 u124 u125 u126 u127 u128 u129 u130 u131 u132 u133 u134 u135 u136 u137 u138 u139 u140 u141 u142 u143 u144 u145 u146 u147 u148 u149 u150 u151 u152 u153 u154 u155 u156 u157 u158 u159 u160 u161 u162 u163 u164 u165 u166 u167 u168 u169 u170 u171 u172 u173 u174 u175 u176 u177 u178 u179 u180 u181 u182 u183 u184 u185 u186 u187 u188 u189 u190 u191 u192 u193 u194 u195 u196 u197 u198 u199 u200 u201 u202 u203 u204 u205 u206 u207 u208 u209 u210 u211 u212 u213 u214 u215 u216 u217 u218 u219 u220 u221 u222 u223 u224 u225 u226 u227 u228 u229 u230 u231 u232 u233 u234 u235 u236 u237 u238 u239 u240 u241 u242 u243 u244 u245 u246 u247 u248 u249 u250 u251 u252 u253 u254 u255 u256 u257 u258 u259 u260 u261 u262 u263 u264 u265 u266 u267 u268 u269 u270 u271 u272 u273 u274 u275 u276 u277 u278 u279 u280 u281 u282 u283 u284 u285 u286 u287 u288 u289 u290 u291 u292 u293 u294 u295 u296 u297 u298 u299 u300 u301 u302 u303 u304 u305 u306 u307 u308 u309 u310 u311 u312 u313 u314 u315 u316 u317 u318 u319 u320 u321 u322 u323 u324 u325 u326 u327 u328 u329 u330 u331 u332 u333 u334 u335 u336 u337 u338 u339 u340 u341 u342 u343 u344 u345 u346 u347 u348 u349 u350 u351 u352 u353 u354 u355 : Value} {v1 : Value} {z1 : List Int} {n wb wo wl wc : Nat} {ws : List Int} {least : Int} (hB : Below w0.heap.size w0 w) (h1 : Byts w0 0 w0.heap.size v1 z1) (hv : Ints w 0 w.heap.size (.slice (some ⟨wb, wo, none⟩) wl wc) ws) (hc : CitN ws n) (hn7 : n ≤ 7) (hls : ∀ A, TourN A n → least ≤ longP ws n A) :
    Code.wp Try.prog (hdC (tlC 18 bodyOf)) (Exit.then (Code.wp Try.prog (tlC 19 bodyOf) (bodyPost Try.prog Try.f6 fun e w' => e = .returned (.bool true) ∧ Below w0.heap.size w0 w')) (bodyPost Try.prog Try.f6 fun e w' => e = .returned (.bool true) ∧ Below w0.heap.size w0 w')) ⟨#[u0, v1, u2, u3, u4, (.int .i64 (n : Int)), (.slice (some ⟨wb, wo, none⟩) wl wc), u7, u8, (.int .i64 least), u10, u11, u12, u13, u14, u15, u16, u17, u18, u19, u20, u21, u22, u23, u24, u25, u26, u27, u28, u29, u30, u31, u32, u33, u34, u35, u36, u37, u38, u39, u40, u41, u42, u43, u44, u45, u46, u47, u48, u49, u50, u51, u52, u53, u54, u55, u56, u57, u58, u59, u60, u61, u62, u63, u64, u65, u66, u67, u68, u69, u70, u71, u72, u73, u74, u75, u76, u77, u78, u79, u80, u81, u82, u83, u84, u85, u86, u87, u88, u89, u90, u91, u92, u93, u94, u95, u96, u97, u98, u99, u100, u101, u102, u103, u104, u105, u106, u107, u108, u109, u110, u111, u112, u113, u114, u115, u116, u117, u118, u119, u120, u121, u122, u123, u124, u125, u126, u127, u128, u129, u130, u131, u132, u133, u134, u135, u136, u137, u138, u139, u140, u141, u142, u143, u144, u145, u146, u147, u148, u149, u150, u151, u152, u153, u154, u155, u156, u157, u158, u159, u160, u161, u162, u163, u164, u165, u166, u167, u168, u169, u170, u171, u172, u173, u174, u175, u176, u177, u178, u179, u180, u181, u182, u183, u184, u185, u186, u187, u188, u189, u190, u191, u192, u193, u194, u195, u196, u197, u198, u199, u200, u201, u202, u203, u204, u205, u206, u207, u208, u209, u210, u211, u212, u213, u214, u215, u216, u217, u218, u219, u220, u221, u222, u223, u224, u225, u226, u227, u228, u229, u230, u231, u232, u233, u234, u235, u236, u237, u238, u239, u240, u241, u242, u243, u244, u245, u246, u247, u248, u249, u250, u251, u252, u253, u254, u255, u256, u257, u258, u259, u260, u261, u262, u263, u264, u265, u266, u267, u268, u269, u270, u271, u272, u273, u274, u275, u276, u277, u278, u279, u280, u281, u282, u283, u284, u285, u286, u287, u288, u289, u290, u291, u292, u293, u294, u295, u296, u297, u298, u299, u300, u301, u302, u303, u304, u305, u306, u307, u308, u309, u310, u311, u312, u313, u314, u315, u316, u317, u318, u319, u320, u321, u322, u323, u324, u325, u326, u327, u328, u329, u330, u331, u332, u333, u334, u335, u336, u337, u338, u339, u340, u341, u342, u343, u344, u345, u346, u347, u348, u349, u350, u351, u352, u353, u354, u355], []⟩ w := by
  conv => arg 2; whnf
  have hs0 : w0.heap.size ≤ w.heap.size := hB.size
  have HB := Lib.hid hB
  have HY1 := Lib.hid h1
  have HV : Hid (∀ wx, Below w.heap.size w wx → Ints wx 0 w.heap.size (.slice (some ⟨wb, wo, none⟩) wl wc) ws) := fun wx hx => hv.below hx (Nat.le_refl _)
  have HC := Lib.hid hc
  have HLS := Lib.hid hls
  have hn1 : 1 ≤ n := hc.le.1
  clear hB h1 hv hc hls
  go_wp2_with fail
  refine (implToursShared_yes w _ ws 1 n (HV.out w (Below.refl _ _)) (Nat.le_refl _) HC.out (by decide)).mono ?_
  rintro e w2 ⟨u, rfl, ho2, hb2⟩
  have hsr := ho2.rd.mono (Nat.zero_le _) (Nat.le_refl _) (Nat.le_refl _)
  obtain ⟨sa, sc, se, s1, s2, sd⟩ := hsr.out
  rw [sharedTo_len] at se
  subst se
  rcases sd with sd | ⟨sb, so, rfl, q1, q2, q3, scell⟩
  · exfalso
    have := congrArg List.length sd
    rw [sharedTo_len] at this
    simp at this; omega
  rw [sharedTo_len] at scell
  have HB2 := Lib.hid hb2
  have HSR : Hid (Ints w2 0 w2.heap.size (.slice (some ⟨sb, so, none⟩) n sc) (sharedTo ws n n)) := hsr
  clear ho2 hb2 hsr scell
  go_wp2_with fail
  conv => arg 2; whnf
  refine wp_seq ?_
  exact tours19 w0 w2 (HB.out.trans ((HB2.out).mono hs0)) HY1.out ((HV.out w2 (HB2.out)).mono (Nat.le_refl _) ((HB2.out).size) (Nat.le_refl _)) HC.out hn7 HLS.out HSR.out
end Go.Proofs.Ytkankfdpodofjaa
