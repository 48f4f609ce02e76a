/-
  FnTours, the tours are tours.
-/
import Derived.Test.YtkankfdpodofjaaTourR
import Derived.Test.YtkankfdpodofjaaTourE
namespace Go.Proofs.Ytkankfdpodofjaa
open Go.RowKit
set_option linter.unusedVariables false
set_option maxRecDepth 100000

set_option maxHeartbeats 4000000 in
set_option maxRecDepth 100000 in
theorem tours10 (w0 w : World) {u0 u2 u3 u4 u7 u21 u22 u23 u24 u25 u26 u27 u28 u29 u30 u31 u32 u33 u34 u35 u36 u37 u38 u39 u40 u41 u42 u43 u44 u45 u46 u47 u48 u49 u50 u51 u52 u53 u54 u55 u56 u57 u58 u59 u60 u61 u62 u63 u64 u65 u66 u67 u68 u69 u70 u71 u72 u73 u74 u75 u76 u77 u78 u79 u80 u81 u82 u83 u84 u85 u86 u87 u88 u89 u90 u91 u92 u93 u94 u95 u96 u97 u98 u99 u100 u101 u102 u103 u104 u105 u106 u107 u108 u109 u110 u111 u112 u113 u114 u115 u116 u117 u118 u119 u120 u121 u122 u123 u124 u125 u126 u127 u128 u129 u130 u131 u132 u133 u134 u135 u136 u137 u138 u139 u140 u141 u142 u143 u144 u145 u146 u147 u148 u149 u150 u151 u152 u153 u154 u155 u156 u157 u158 u159 u160 u161 u162 u163 u164 u165 u166 u167 u168 u169 u170 u171 u172 u173 u174 u175 u176 u177 u178 u179 u180 u181 u182 u183 u184 u185 u186 u187 u188 u189 u190 u191 u192 u193 u194 u195 u196 u197 u198 u199 u200 u201 u202 u203 u204 u205 u206 u207 u208 u209 u210 u211 u212 u213 u214 u215 u216 u217 u218 u219 u220 u221 u222 u223 u224 u225 u226 u227 u228 u229 u230 u231 u232 u233 u234 u235 u236 u237 u238 u239 u240 u241 u242 u243 u244 u245 u246 u247 u248 u249 u250 u251 u252 u253 u254 u255 u256 u257 u258 u259 u260 u261 u262 u263 u264 u265 u266 u267 u268 u269 u270 u271 u272 u273 u274 u275 u276 u277 u278 u279 u280 u281 u282 u283 u284 u285 u286 u287 u288 u289 u290 u291 u292 u293 u294 u295 u296 u297 u298 u299 u300 u301 u302 u303 u304 u305 u306 u307 u308 u309 u310 u311 u312 u313 u314 u315 u316 u317 u318 u319 u320 u321 u322 u323 u324 u325 u326 u327 u328 u329 u330 u331 u332 u333 u334 u335 u336 u337 u338 u339 u340 u341 u342 u343 u344 u345 u346 u347 u348 u349 u350 u351 u352 u353 u354 u355 : Value} {v1 : Value} {z1 : List Int} {n wb wo wl wc : Nat} {ws : List Int} {least : Int} (hB : Below w0.heap.size w0 w) (h1 : Byts w0 0 w0.heap.size v1 z1) (hv : Ints w 0 w.heap.size (.slice (some ⟨wb, wo, none⟩) wl wc) ws) (hc : CitN ws n) (hn7 : n ≤ 7) (hls : ∀ A, TourN A n → least ≤ longP ws n A) {nb no nc : Nat} {Nr : List Int} (hN : Ints w 0 w.heap.size (.slice (some ⟨nb, no, none⟩) n nc) Nr) (hNT : TourN Nr n) (hnx : ∀ i k : Nat, i + 1 < n → i + 1 ≤ k → k < n → wayOf ws n (Nr.getD i 0) (Nr.getD (i + 1) 0) ≤ wayOf ws n (Nr.getD i 0) (Nr.getD k 0)) {bb bo bc : Nat} {long turns moves : Int} {vS vM : Value} {A B1 M : List Int} (hA : Ints w 0 w.heap.size (.slice (some ⟨bb, bo, none⟩) n bc) A) (hAT : TourN A n) (hA0 : A.getD 0 0 = 0) (hN0 : Nr.getD 0 0 = at8 z1 41 (n : Int)) (hAl : least = longP ws n A) (hS : Ints w 0 w.heap.size vS B1) (hST : TourN B1 n) (hfix : siGo ws n B1 n 0 = none) (hM : Ints w 0 w.heap.size vM M) (hMT : TourN M n) (e1 : longP ws n B1 ≤ long) (e2 : longP ws n M ≤ long) (e6 : least ≤ long) (e7 : 0 < turns → longP ws n B1 < long) (e8 : 0 < moves → longP ws n M < long) :
    Code.wp Try.prog (hdC (tlC 10 bodyOf)) (Exit.then (Code.wp Try.prog (tlC 11 bodyOf) (bodyPost Try.prog Try.f6 fun e w' => e = .returned (.bool true) ∧ Below w0.heap.size w0 w')) (bodyPost Try.prog Try.f6 fun e w' => e = .returned (.bool true) ∧ Below w0.heap.size w0 w')) ⟨#[u0, v1, u2, u3, u4, (.int .i64 (n : Int)), (.slice (some ⟨wb, wo, none⟩) wl wc), u7, (.slice (some ⟨bb, bo, none⟩) n bc), (.int .i64 least), (.bool true), (.int .i64 long), (.bool true), vS, (.int .i64 turns), (.bool true), vM, (.int .i64 moves), (.bool true), (.slice (some ⟨nb, no, none⟩) n nc), (.bool true), u21, u22, u23, u24, u25, u26, u27, u28, u29, u30, u31, u32, u33, u34, u35, u36, u37, u38, u39, u40, u41, u42, u43, u44, u45, u46, u47, u48, u49, u50, u51, u52, u53, u54, u55, u56, u57, u58, u59, u60, u61, u62, u63, u64, u65, u66, u67, u68, u69, u70, u71, u72, u73, u74, u75, u76, u77, u78, u79, u80, u81, u82, u83, u84, u85, u86, u87, u88, u89, u90, u91, u92, u93, u94, u95, u96, u97, u98, u99, u100, u101, u102, u103, u104, u105, u106, u107, u108, u109, u110, u111, u112, u113, u114, u115, u116, u117, u118, u119, u120, u121, u122, u123, u124, u125, u126, u127, u128, u129, u130, u131, u132, u133, u134, u135, u136, u137, u138, u139, u140, u141, u142, u143, u144, u145, u146, u147, u148, u149, u150, u151, u152, u153, u154, u155, u156, u157, u158, u159, u160, u161, u162, u163, u164, u165, u166, u167, u168, u169, u170, u171, u172, u173, u174, u175, u176, u177, u178, u179, u180, u181, u182, u183, u184, u185, u186, u187, u188, u189, u190, u191, u192, u193, u194, u195, u196, u197, u198, u199, u200, u201, u202, u203, u204, u205, u206, u207, u208, u209, u210, u211, u212, u213, u214, u215, u216, u217, u218, u219, u220, u221, u222, u223, u224, u225, u226, u227, u228, u229, u230, u231, u232, u233, u234, u235, u236, u237, u238, u239, u240, u241, u242, u243, u244, u245, u246, u247, u248, u249, u250, u251, u252, u253, u254, u255, u256, u257, u258, u259, u260, u261, u262, u263, u264, u265, u266, u267, u268, u269, u270, u271, u272, u273, u274, u275, u276, u277, u278, u279, u280, u281, u282, u283, u284, u285, u286, u287, u288, u289, u290, u291, u292, u293, u294, u295, u296, u297, u298, u299, u300, u301, u302, u303, u304, u305, u306, u307, u308, u309, u310, u311, u312, u313, u314, u315, u316, u317, u318, u319, u320, u321, u322, u323, u324, u325, u326, u327, u328, u329, u330, u331, u332, u333, u334, u335, u336, u337, u338, u339, u340, u341, u342, u343, u344, u345, u346, u347, u348, u349, u350, u351, u352, u353, u354, u355], []⟩ w := by
  conv => arg 2; whnf
  have hs0 : w0.heap.size ≤ w.heap.size := hB.size
  have HB := Lib.hid hB
  have HY1 := Lib.hid h1
  have HV : Hid (∀ wx, Below w.heap.size w wx → Ints wx 0 w.heap.size (.slice (some ⟨wb, wo, none⟩) wl wc) ws) := fun wx hx => hv.below hx (Nat.le_refl _)
  have HC := Lib.hid hc
  have HLS := Lib.hid hls
  have hn1 : 1 ≤ n := hc.le.1
  clear hB h1 hv hc hls
  have HNX := Lib.hid hnx
  have HNT := Lib.hid hNT
  have HNN := Lib.hid hN
  have HAI := Lib.hid hA
  have HAT := Lib.hid hAT
  have HSI := Lib.hid hS
  have HST := Lib.hid hST
  have HMI := Lib.hid hM
  have HMT := Lib.hid hMT
  have E7 := Lib.hid e7
  have E8 := Lib.hid e8
  have cellOf : ∀ {a : Option Addr} {b o c : Nat} {X : List Int}, Ints w 0 w.heap.size (.slice (some ⟨b, o, none⟩) n c) X → X.length = n → b < w.heap.size ∧ w.cell? ⟨b, o, none⟩ = some (.int .i64 (X.getD 0 0)) := fun {a b o c X} h hl => by
    obtain ⟨a', c', e, _, _, hd⟩ := h.out
    injection e with x1 x2 x3
    rcases hd with hd | ⟨b', o', y1, y2, y3, y4, hcell⟩
    · exfalso; rw [hd] at hl; simp at hl; omega
    · rw [← x1] at y1
      injection y1 with y1
      injection y1 with z1 z2 z3
      subst z1 z2
      exact ⟨y3, hcell 0 (by omega)⟩
  obtain ⟨a1, a2⟩ := cellOf (a := none) HAI.out HAT.out.len
  obtain ⟨m1, m2⟩ := cellOf (a := none) HNN.out HNT.out.len
  rw [hA0] at a2
  rw [hN0] at m2
  clear hnx hNT hN hA hAT hS hST hM hMT e7 e8 cellOf
  refine wp_seq ?_
  refine reg11 w (fun wx hx => (by have := areCities_any _ ws wx (HV.out wx hx) HC.out.small; rw [HC.out.cit] at this; exact this)) (fun wx hx => r8Tour_yes _ A n wx (HAI.out.below hx (Nat.le_refl _)) hx.size HAT.out hn1 (by omega)) (fun wx hx => r8Tour_yes _ B1 n wx (HSI.out.below hx (Nat.le_refl _)) hx.size HST.out hn1 (by omega)) (fun wx hx => r8Tour_yes _ M n wx (HMI.out.below hx (Nat.le_refl _)) hx.size HMT.out hn1 (by omega)) (fun wx hx => r8Tour_yes _ Nr n wx (HNN.out.below hx (Nat.le_refl _)) hx.size HNT.out hn1 (by omega)) (fun wx hx => (r8At_any v1 z1 41 n wx (HY1.out.below (HB.out.trans (hx.mono hs0)) (Nat.le_refl _)) (by decide) (by omega) (by omega))) a2 m2 a1 m1 hn1 _ _ ?_
  intro w2 x86 x87 x88 x89 x90 x91 x92 x93 x94 x95 x96 x97 x98 x99 x100 x101 x102 x103 x104 x105 x106 x107 x108 x109 x110 x111 x112 x113 x114 x115 x116 x117 x118 x119 x120 x121 x122 x123 x124 x125 x126 x127 x128 x129 x130 x131 x132 x133 x134 x135 x136 x137 x138 x139 x140 x141 x142 x143 x144 x145 x146 hb2
  have HB2 := Lib.hid hb2
  have hz2 := hb2.size
  clear hb2 a2 m2
  go_wp2_with fail
  conv => arg 2; whnf
  refine wp_seq ?_
  exact tours11 w0 w2 (HB.out.trans ((HB2.out).mono hs0)) HY1.out ((HV.out w2 (HB2.out)).mono (Nat.le_refl _) ((HB2.out).size) (Nat.le_refl _)) HC.out hn7 HLS.out ((HNN.out.below HB2.out (Nat.le_refl _)).mono (Nat.le_refl _) hz2 (Nat.le_refl _)) HNT.out HNX.out ((HAI.out.below HB2.out (Nat.le_refl _)).mono (Nat.le_refl _) hz2 (Nat.le_refl _)) HAT.out hAl ((HSI.out.below HB2.out (Nat.le_refl _)).mono (Nat.le_refl _) hz2 (Nat.le_refl _)) HST.out hfix ((HMI.out.below HB2.out (Nat.le_refl _)).mono (Nat.le_refl _) hz2 (Nat.le_refl _)) HMT.out e1 e2 e6 E7.out E8.out
set_option maxHeartbeats 4000000 in
set_option maxRecDepth 100000 in
theorem tours9 (w0 w : World) {u0 u2 u3 u4 u7 u19 u20 u21 u22 u23 u24 u25 u26 u27 u28 u29 u30 u31 u32 u33 u34 u35 u36 u37 u38 u39 u40 u41 u42 u43 u44 u45 u46 u47 u48 u49 u50 u51 u52 u53 u54 u55 u56 u57 u58 u59 u60 u61 u62 u63 u64 u65 u66 u67 u68 u69 u70 u71 u72 u73 u74 u75 u76 u77 u78 u79 u80 u81 u82 u83 u84 u85 u86 u87 u88 u89 u90 u91 u92 u93 u94 u95 u96 u97 u98 u99 u100 u101 u102 u103 u104 u105 u106 u107 u108 u109 u110 u111 u112 u113 u114 u115 u116 u117 u118 u119 u120 u121 u122 u123 u124 u125 u126 u127 u128 u129 u130 u131 u132 u133 u134 u135 u136 u137 u138 u139 u140 u141 u142 u143 u144 u145 u146 u147 u148 u149 u150 u151 u152 u153 u154 u155 u156 u157 u158 u159 u160 u161 u162 u163 u164 u165 u166 u167 u168 u169 u170 u171 u172 u173 u174 u175 u176 u177 u178 u179 u180 u181 u182 u183 u184 u185 u186 u187 u188 u189 u190 u191 u192 u193 u194 u195 u196 u197 u198 u199 u200 u201 u202 u203 u204 u205 u206 u207 u208 u209 u210 u211 u212 u213 u214 u215 u216 u217 u218 u219 u220 u221 u222 u223 u224 u225 u226 u227 u228 u229 u230 u231 u232 u233 u234 u235 u236 u237 u238 u239 u240 u241 u242 u243 u244 u245 u246 u247 u248 u249 u250 u251 u252 u253 u254 u255 u256 u257 u258 u259 u260 u261 u262 u263 u264 u265 u266 u267 u268 u269 u270 u271 u272 u273 u274 u275 u276 u277 u278 u279 u280 u281 u282 u283 u284 u285 u286 u287 u288 u289 u290 u291 u292 u293 u294 u295 u296 u297 u298 u299 u300 u301 u302 u303 u304 u305 u306 u307 u308 u309 u310 u311 u312 u313 u314 u315 u316 u317 u318 u319 u320 u321 u322 u323 u324 u325 u326 u327 u328 u329 u330 u331 u332 u333 u334 u335 u336 u337 u338 u339 u340 u341 u342 u343 u344 u345 u346 u347 u348 u349 u350 u351 u352 u353 u354 u355 : Value} {v1 : Value} {z1 : List Int} {n wb wo wl wc : Nat} {ws : List Int} {least : Int} (hB : Below w0.heap.size w0 w) (h1 : Byts w0 0 w0.heap.size v1 z1) (hv : Ints w 0 w.heap.size (.slice (some ⟨wb, wo, none⟩) wl wc) ws) (hc : CitN ws n) (hn7 : n ≤ 7) (hls : ∀ A, TourN A n → least ≤ longP ws n A) {bb bo bc : Nat} {long turns moves : Int} {vS vM : Value} {A B1 M : List Int} (hA : Ints w 0 w.heap.size (.slice (some ⟨bb, bo, none⟩) n bc) A) (hAT : TourN A n) (hA0 : A.getD 0 0 = 0) (hAl : least = longP ws n A) (hS : Ints w 0 w.heap.size vS B1) (hST : TourN B1 n) (hfix : siGo ws n B1 n 0 = none) (hM : Ints w 0 w.heap.size vM M) (hMT : TourN M n) (e1 : longP ws n B1 ≤ long) (e2 : longP ws n M ≤ long) (e6 : least ≤ long) (e7 : 0 < turns → longP ws n B1 < long) (e8 : 0 < moves → longP ws n M < long) :
    Code.wp Try.prog (hdC (tlC 9 bodyOf)) (Exit.then (Code.wp Try.prog (tlC 10 bodyOf) (bodyPost Try.prog Try.f6 fun e w' => e = .returned (.bool true) ∧ Below w0.heap.size w0 w')) (bodyPost Try.prog Try.f6 fun e w' => e = .returned (.bool true) ∧ Below w0.heap.size w0 w')) ⟨#[u0, v1, u2, u3, u4, (.int .i64 (n : Int)), (.slice (some ⟨wb, wo, none⟩) wl wc), u7, (.slice (some ⟨bb, bo, none⟩) n bc), (.int .i64 least), (.bool true), (.int .i64 long), (.bool true), vS, (.int .i64 turns), (.bool true), vM, (.int .i64 moves), (.bool true), u19, u20, u21, u22, u23, u24, u25, u26, u27, u28, u29, u30, u31, u32, u33, u34, u35, u36, u37, u38, u39, u40, u41, u42, u43, u44, u45, u46, u47, u48, u49, u50, u51, u52, u53, u54, u55, u56, u57, u58, u59, u60, u61, u62, u63, u64, u65, u66, u67, u68, u69, u70, u71, u72, u73, u74, u75, u76, u77, u78, u79, u80, u81, u82, u83, u84, u85, u86, u87, u88, u89, u90, u91, u92, u93, u94, u95, u96, u97, u98, u99, u100, u101, u102, u103, u104, u105, u106, u107, u108, u109, u110, u111, u112, u113, u114, u115, u116, u117, u118, u119, u120, u121, u122, u123, u124, u125, u126, u127, u128, u129, u130, u131, u132, u133, u134, u135, u136, u137, u138, u139, u140, u141, u142, u143, u144, u145, u146, u147, u148, u149, u150, u151, u152, u153, u154, u155, u156, u157, u158, u159, u160, u161, u162, u163, u164, u165, u166, u167, u168, u169, u170, u171, u172, u173, u174, u175, u176, u177, u178, u179, u180, u181, u182, u183, u184, u185, u186, u187, u188, u189, u190, u191, u192, u193, u194, u195, u196, u197, u198, u199, u200, u201, u202, u203, u204, u205, u206, u207, u208, u209, u210, u211, u212, u213, u214, u215, u216, u217, u218, u219, u220, u221, u222, u223, u224, u225, u226, u227, u228, u229, u230, u231, u232, u233, u234, u235, u236, u237, u238, u239, u240, u241, u242, u243, u244, u245, u246, u247, u248, u249, u250, u251, u252, u253, u254, u255, u256, u257, u258, u259, u260, u261, u262, u263, u264, u265, u266, u267, u268, u269, u270, u271, u272, u273, u274, u275, u276, u277, u278, u279, u280, u281, u282, u283, u284, u285, u286, u287, u288, u289, u290, u291, u292, u293, u294, u295, u296, u297, u298, u299, u300, u301, u302, u303, u304, u305, u306, u307, u308, u309, u310, u311, u312, u313, u314, u315, u316, u317, u318, u319, u320, u321, u322, u323, u324, u325, u326, u327, u328, u329, u330, u331, u332, u333, u334, u335, u336, u337, u338, u339, u340, u341, u342, u343, u344, u345, u346, u347, u348, u349, u350, u351, u352, u353, u354, u355], []⟩ w := by
  conv => arg 2; whnf
  have hs0 : w0.heap.size ≤ w.heap.size := hB.size
  have HB := Lib.hid hB
  have HY1 := Lib.hid h1
  have HV : Hid (∀ wx, Below w.heap.size w wx → Ints wx 0 w.heap.size (.slice (some ⟨wb, wo, none⟩) wl wc) ws) := fun wx hx => hv.below hx (Nat.le_refl _)
  have HC := Lib.hid hc
  have HLS := Lib.hid hls
  have hn1 : 1 ≤ n := hc.le.1
  clear hB h1 hv hc hls
  have HAI := Lib.hid hA
  have HAT := Lib.hid hAT
  have HSI := Lib.hid hS
  have HST := Lib.hid hST
  have HMI := Lib.hid hM
  have HMT := Lib.hid hMT
  have E7 := Lib.hid e7
  have E8 := Lib.hid e8
  have HA0 := Lib.hid hA0
  have HAL := Lib.hid hAl
  have HFX := Lib.hid hfix
  have HATT := Lib.hid (r8At_any v1 z1 41 n w (HY1.out.below HB.out (Nat.le_refl _)) (by decide) (by omega) (by omega))
  have har := at8_rng z1 41 n (by omega)
  obtain ⟨a, ha⟩ : ∃ a, a = at8 z1 41 (n : Int) := ⟨_, rfl⟩
  simp only [show ((41 : Nat) : Int) = 41 from rfl, ← ha] at HATT
  rw [← ha] at har
  have HAA := Lib.hid ha
  clear hA hAT hS hST hM hMT e7 e8 ha hA0 hAl hfix
  go_wp2_with fail
  refine HATT.out.mono ?_
  rintro e w' ⟨rfl, rfl⟩
  go_wp2_with fail
  refine (implNearTour_yes w _ ws a n (HV.out w (Below.refl _ _)) (Nat.le_refl _) HC.out har.1 har.2).mono ?_
  rintro e w2 ⟨u, rfl, ho2, hb2⟩
  have hnf := nearF (wayOf ws n) (n := n) (f := a) hn1 har.1 har.2
  have hz2 := hb2.size
  have HB2 := Lib.hid hb2
  have hN := ho2.rd.mono (Nat.zero_le _) (Nat.le_refl _) (Nat.le_refl _)
  have hNl := hnf.tn.len
  obtain ⟨na, nc, ne, g1, g2, gd⟩ := hN.out
  rw [hNl] at ne
  subst ne
  rcases gd with gd | ⟨nb, no, rfl, r1, r2, r3, _⟩
  · exfalso; rw [gd] at hNl; simp at hNl; omega
  have HN := Lib.hid hN
  have HNF := Lib.hid hnf
  clear ho2 hb2 hN hNl hnf g1
  go_wp2_with fail
  conv => arg 2; whnf
  refine wp_seq ?_
  exact tours10 w0 w2 (HB.out.trans ((HB2.out).mono hs0)) HY1.out ((HV.out w2 (HB2.out)).mono (Nat.le_refl _) ((HB2.out).size) (Nat.le_refl _)) HC.out hn7 HLS.out HN.out HNF.out.tn HNF.out.nx ((HAI.out.below HB2.out (Nat.le_refl _)).mono (Nat.le_refl _) hz2 (Nat.le_refl _)) HAT.out HA0.out (by rw [HNF.out.hd, HAA.out]) HAL.out ((HSI.out.below HB2.out (Nat.le_refl _)).mono (Nat.le_refl _) hz2 (Nat.le_refl _)) HST.out HFX.out ((HMI.out.below HB2.out (Nat.le_refl _)).mono (Nat.le_refl _) hz2 (Nat.le_refl _)) HMT.out e1 e2 e6 E7.out E8.out
end Go.Proofs.Ytkankfdpodofjaa
