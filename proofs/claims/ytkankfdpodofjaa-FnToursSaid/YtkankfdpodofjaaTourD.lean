/-
  FnTours, what is told of the tours.
-/
import Derived.Test.YtkankfdpodofjaaTourB
namespace Go.Proofs.Ytkankfdpodofjaa
open Go.RowKit
set_option linter.unusedVariables false
set_option maxRecDepth 100000

set_option maxHeartbeats 16000000 in
set_option maxRecDepth 100000 in
theorem tours16 (w0 w : World) {u0 u2 u3 u4 u7 u8 u10 u15 u16 u18 u20 u32 u33 u34 u35 u36 u37 u38 u39 u40 u41 u42 u43 u44 u45 u46 u47 u48 u49 u50 u51 u52 u53 u54 u55 u56 u57 u58 u59 u60 u61 u62 u63 u64 u65 u66 u67 u68 u69 u70 u71 u72 u73 u74 u75 u76 u77 u78 u79 u80 u81 u82 u83 u84 u85 u86 u87 u88 u89 u90 u91 u92 u93 u94 u95 u96 u97 u98 u99 u100 u101 u102 u103 u104 u105 u106 u107 u108 u109 u110 u111 u112 u113 u114 u115 u116 u117 u118 u119 u120 u121 u122 u123 u124 u125 u126 u127 u128 u129 u130 u131 u132 u133 u134 u135 u136 u137 u138 u139 u140 u141 u142 u143 u144 u145 u146 u147 u148 u149 u150 u151 u152 u153 u154 u155 u156 u157 u158 u159 u160 u161 u162 u163 u164 u165 u166 u167 u168 u169 u170 u171 u172 u173 u174 u175 u176 u177 u178 u179 u180 u181 u182 u183 u184 u185 u186 u187 u188 u189 u190 u191 u192 u193 u194 u195 u196 u197 u198 u199 u200 u201 u202 u203 u204 u205 u206 u207 u208 u209 u210 u211 u212 u213 u214 u215 u216 u217 u218 u219 u220 u221 u222 u223 u224 u225 u226 u227 u228 u229 u230 u231 u232 u233 u234 u235 u236 u237 u238 u239 u240 u241 u242 u243 u244 u245 u246 u247 u248 u249 u250 u251 u252 u253 u254 u255 u256 u257 u258 u259 u260 u261 u262 u263 u264 u265 u266 u267 u268 u269 u270 u271 u272 u273 u274 u275 u276 u277 u278 u279 u280 u281 u282 u283 u284 u285 u286 u287 u288 u289 u290 u291 u292 u293 u294 u295 u296 u297 u298 u299 u300 u301 u302 u303 u304 u305 u306 u307 u308 u309 u310 u311 u312 u313 u314 u315 u316 u317 u318 u319 u320 u321 u322 u323 u324 u325 u326 u327 u328 u329 u330 u331 u332 u333 u334 u335 u336 u337 u338 u339 u340 u341 u342 u343 u344 u345 u346 u347 u348 u349 u350 u351 u352 u353 u354 u355 : Value} {v1 : Value} {z1 : List Int} {n wb wo wl wc : Nat} {ws : List Int} {least : Int} (hB : Below w0.heap.size w0 w) (h1 : Byts w0 0 w0.heap.size v1 z1) (hv : Ints w 0 w.heap.size (.slice (some ⟨wb, wo, none⟩) wl wc) ws) (hc : CitN ws n) (hn7 : n ≤ 7) (hls : ∀ A, TourN A n → least ≤ longP ws n A) {nb no nc : Nat} {Nr : List Int} (hN : Ints w 0 w.heap.size (.slice (some ⟨nb, no, none⟩) n nc) Nr) (hNT : TourN Nr n) (hnx : ∀ i k : Nat, i + 1 < n → i + 1 ≤ k → k < n → wayOf ws n (Nr.getD i 0) (Nr.getD (i + 1) 0) ≤ wayOf ws n (Nr.getD i 0) (Nr.getD k 0)) {long turns moves ta tb tc : Int} {sa ra : Option Addr} {sc rc : Nat} (e1 : ta ≤ long) (e2 : tb ≤ long) (e3 : least ≤ ta) (e4 : least ≤ tb) (e5 : least ≤ tc) (e6 : least ≤ long) (e7 : 0 < turns → ta < long) (e8 : 0 < moves → tb < long) :
    Code.wp Try.prog (hdC (tlC 16 bodyOf)) (Exit.then (Code.wp Try.prog (tlC 17 bodyOf) (bodyPost Try.prog Try.f6 fun e w' => e = .returned (.bool true) ∧ Below w0.heap.size w0 w')) (bodyPost Try.prog Try.f6 fun e w' => e = .returned (.bool true) ∧ Below w0.heap.size w0 w')) ⟨#[u0, v1, u2, u3, u4, (.int .i64 (n : Int)), (.slice (some ⟨wb, wo, none⟩) wl wc), u7, u8, (.int .i64 least), u10, (.int .i64 long), (.bool true), (.slice sa n sc), (.int .i64 turns), u15, u16, (.int .i64 moves), u18, (.slice (some ⟨nb, no, none⟩) n nc), u20, (.int .i64 least), (.bool true), (.int .i64 ta), (.bool true), (.int .i64 tb), (.bool true), (.int .i64 tc), (.bool true), (.slice ra n rc), (.int .i64 0), (.bool true), u32, u33, u34, u35, u36, u37, u38, u39, u40, u41, u42, u43, u44, u45, u46, u47, u48, u49, u50, u51, u52, u53, u54, u55, u56, u57, u58, u59, u60, u61, u62, u63, u64, u65, u66, u67, u68, u69, u70, u71, u72, u73, u74, u75, u76, u77, u78, u79, u80, u81, u82, u83, u84, u85, u86, u87, u88, u89, u90, u91, u92, u93, u94, u95, u96, u97, u98, u99, u100, u101, u102, u103, u104, u105, u106, u107, u108, u109, u110, u111, u112, u113, u114, u115, u116, u117, u118, u119, u120, u121, u122, u123, u124, u125, u126, u127, u128, u129, u130, u131, u132, u133, u134, u135, u136, u137, u138, u139, u140, u141, u142, u143, u144, u145, u146, u147, u148, u149, u150, u151, u152, u153, u154, u155, u156, u157, u158, u159, u160, u161, u162, u163, u164, u165, u166, u167, u168, u169, u170, u171, u172, u173, u174, u175, u176, u177, u178, u179, u180, u181, u182, u183, u184, u185, u186, u187, u188, u189, u190, u191, u192, u193, u194, u195, u196, u197, u198, u199, u200, u201, u202, u203, u204, u205, u206, u207, u208, u209, u210, u211, u212, u213, u214, u215, u216, u217, u218, u219, u220, u221, u222, u223, u224, u225, u226, u227, u228, u229, u230, u231, u232, u233, u234, u235, u236, u237, u238, u239, u240, u241, u242, u243, u244, u245, u246, u247, u248, u249, u250, u251, u252, u253, u254, u255, u256, u257, u258, u259, u260, u261, u262, u263, u264, u265, u266, u267, u268, u269, u270, u271, u272, u273, u274, u275, u276, u277, u278, u279, u280, u281, u282, u283, u284, u285, u286, u287, u288, u289, u290, u291, u292, u293, u294, u295, u296, u297, u298, u299, u300, u301, u302, u303, u304, u305, u306, u307, u308, u309, u310, u311, u312, u313, u314, u315, u316, u317, u318, u319, u320, u321, u322, u323, u324, u325, u326, u327, u328, u329, u330, u331, u332, u333, u334, u335, u336, u337, u338, u339, u340, u341, u342, u343, u344, u345, u346, u347, u348, u349, u350, u351, u352, u353, u354, u355], []⟩ w := by
  conv => arg 2; whnf
  have hs0 : w0.heap.size ≤ w.heap.size := hB.size
  have HB := Lib.hid hB
  have HY1 := Lib.hid h1
  have HV : Hid (∀ wx, Below w.heap.size w wx → Ints wx 0 w.heap.size (.slice (some ⟨wb, wo, none⟩) wl wc) ws) := fun wx hx => hv.below hx (Nat.le_refl _)
  have HC := Lib.hid hc
  have HLS := Lib.hid hls
  have hn1 : 1 ≤ n := hc.le.1
  clear hB h1 hv hc hls
  have HNX := Lib.hid hnx
  have HNT := Lib.hid hNT
  have HNN := Lib.hid hN
  have d1 : decide (long < ta) = false := decide_eq_false (by omega)
  have d2 : decide (long < tb) = false := decide_eq_false (by omega)
  have d3 : decide (ta < least) = false := decide_eq_false (by omega)
  have d4 : decide (tb < least) = false := decide_eq_false (by omega)
  have d5 : decide (tc < least) = false := decide_eq_false (by omega)
  have d6 : decide (long < least) = false := decide_eq_false (by omega)
  have f1 : ¬ long < ta := by omega
  have f2 : ¬ long < tb := by omega
  have f3 : ¬ ta < least := by omega
  have f4 : ¬ tb < least := by omega
  have f5 : ¬ tc < least := by omega
  have f6 : ¬ long < least := by omega
  clear hnx hNT hN e1 e2 e3 e4 e5 e6
  by_cases t0 : 0 < turns <;> by_cases m0 : 0 < moves
  · have g1 : ¬ long ≤ ta := by have := e7 t0; omega
    have g2 : ¬ long ≤ tb := by have := e8 m0; omega
    have h1 : decide (0 < turns) = true := decide_eq_true t0
    have h2 : decide (0 < moves) = true := decide_eq_true m0
    have h3 : decide (long ≤ ta) = false := decide_eq_false g1
    have h4 : decide (long ≤ tb) = false := decide_eq_false g2
    clear e7 e8
    go_wp2_with fail
    conv => arg 2; whnf
    refine wp_seq ?_
    exact tours17 w0 w (HB.out.trans ((Below.refl w.heap.size w).mono hs0)) HY1.out ((HV.out w (Below.refl w.heap.size w)).mono (Nat.le_refl _) ((Below.refl w.heap.size w).size) (Nat.le_refl _)) HC.out hn7 HLS.out HNN.out HNT.out HNX.out
  · have g1 : ¬ long ≤ ta := by have := e7 t0; omega
    have h1 : decide (0 < turns) = true := decide_eq_true t0
    have h2 : decide (0 < moves) = false := decide_eq_false m0
    have h3 : decide (long ≤ ta) = false := decide_eq_false g1
    clear e7 e8
    go_wp2_with fail
    conv => arg 2; whnf
    refine wp_seq ?_
    exact tours17 w0 w (HB.out.trans ((Below.refl w.heap.size w).mono hs0)) HY1.out ((HV.out w (Below.refl w.heap.size w)).mono (Nat.le_refl _) ((Below.refl w.heap.size w).size) (Nat.le_refl _)) HC.out hn7 HLS.out HNN.out HNT.out HNX.out
  · have g2 : ¬ long ≤ tb := by have := e8 m0; omega
    have h1 : decide (0 < turns) = false := decide_eq_false t0
    have h2 : decide (0 < moves) = true := decide_eq_true m0
    have h4 : decide (long ≤ tb) = false := decide_eq_false g2
    clear e7 e8
    go_wp2_with fail
    conv => arg 2; whnf
    refine wp_seq ?_
    exact tours17 w0 w (HB.out.trans ((Below.refl w.heap.size w).mono hs0)) HY1.out ((HV.out w (Below.refl w.heap.size w)).mono (Nat.le_refl _) ((Below.refl w.heap.size w).size) (Nat.le_refl _)) HC.out hn7 HLS.out HNN.out HNT.out HNX.out
  · have h1 : decide (0 < turns) = false := decide_eq_false t0
    have h2 : decide (0 < moves) = false := decide_eq_false m0
    clear e7 e8
    go_wp2_with fail
    conv => arg 2; whnf
    refine wp_seq ?_
    exact tours17 w0 w (HB.out.trans ((Below.refl w.heap.size w).mono hs0)) HY1.out ((HV.out w (Below.refl w.heap.size w)).mono (Nat.le_refl _) ((Below.refl w.heap.size w).size) (Nat.le_refl _)) HC.out hn7 HLS.out HNN.out HNT.out HNX.out
end Go.Proofs.Ytkankfdpodofjaa
