/-
  FnPacks, all masks.
-/
import Derived.Test.YtkankfdpodofjaaPacksC
namespace Go.Proofs.Ytkankfdpodofjaa
open Go.RowKit
set_option linter.unusedVariables false
set_option maxRecDepth 100000

set_option maxHeartbeats 4000000 in
set_option maxRecDepth 100000 in
theorem packsB (w0 w : World) {u0 u1 u2 u3 u4 u10 u11 u13 u14 u15 u16 u17 u18 u20 u21 u23 u24 u25 u26 u27 u28 u29 u31 u32 u34 u38 u39 u40 u41 u42 u43 u44 u45 u46 u47 u48 u49 u50 u51 u52 u53 u54 u55 u56 u57 u58 u59 u60 u61 u62 u63 u64 u65 u66 u67 u68 u69 u70 u71 u72 u73 u74 u75 u76 u77 u78 u79 u80 u81 u82 u83 u84 u85 u86 u87 u88 u89 u90 u91 u92 u93 u94 u95 u96 u97 u98 u99 u100 u101 u102 u103 u104 u105 u106 u107 u108 u109 u110 u111 u112 u113 u114 u115 u116 u117 u118 u119 u120 u121 u122 u123 u124 u125 u126 u127 u128 u129 u130 u131 u132 u133 u134 u135 u136 u137 u138 u139 u140 u141 u142 u143 u144 u145 u146 u147 u148 u149 u150 u151 u152 u153 u154 u155 u156 u157 u158 u159 u160 u161 u162 u163 u164 u165 u166 u167 u168 u169 u170 u171 u172 u173 u174 u175 u176 u177 u178 u179 u180 u181 u182 u183 u184 u185 u186 u187 u188 u189 u190 u191 u192 u193 u194 u195 u196 u197 u198 u199 u200 u201 u202 u203 u204 u205 u206 u207 u208 u209 u210 u211 u212 u213 u214 u215 u216 u217 u218 u219 u220 u221 u222 u223 u224 u225 u226 u227 u228 u229 u230 u231 u232 u233 u234 u235 u236 u237 u238 u239 u240 u241 u242 u243 u244 u245 u246 u247 u248 u249 u250 u251 u252 u253 u254 u255 u256 u257 u258 u259 u260 u261 u262 u263 u264 u265 u266 u267 u268 u269 u270 u271 u272 u273 u274 u275 u276 u277 u278 u279 u280 u281 u282 u283 u284 u285 u286 u287 u288 u289 u290 u291 u292 u293 u294 u295 u296 u297 u298 u299 u300 u301 u302 u303 u304 u305 u306 u307 u308 u309 u310 u311 u312 u313 u314 u315 u316 u317 u318 u319 u320 u321 u322 u323 u324 u325 u326 u327 u328 u329 u330 u331 u332 u333 u334 u335 u336 u337 u338 u339 u340 u341 u342 u343 u344 u345 u346 u347 u348 u349 u350 u351 u352 u353 u354 u355 u356 u357 u358 u359 u360 u361 u362 u363 u364 u365 u366 u367 u368 u369 u370 u371 u372 u373 u374 u375 u376 u377 u378 u379 u380 u381 u382 u383 u384 u385 u386 u387 u388 u389 u390 u391 u392 u393 u394 u395 u396 u397 u398 u399 u400 u401 u402 u403 u404 u405 u406 u407 u408 u409 u410 u411 u412 u413 u414 u415 u416 u417 u418 u419 u420 u421 u422 u423 : Value} {n R sb so sc gb go gc ab ao ac : Nat} {ss gs : List Int} {gain ways gap part : Int} (hB : Below w0.heap.size w0 w) (HPk : PkH n R ss gs) (hS : Ints w 0 w.heap.size (.slice (some ⟨sb, so, none⟩) n sc) ss) (hG : Ints w 0 w.heap.size (.slice (some ⟨gb, go, none⟩) n gc) gs) (hA : Ints w 0 w.heap.size (.slice (some ⟨ab, ao, none⟩) (R + 1) ac) (tabRow ss gs R n)) (hp0 : 0 ≤ part) (hp1 : part ≤ 84) (hf : farOf (pSum ss (fun _ => true) n) part = gap) (hbest : bestTo ss gs n (R : Int) (2 ^ n) = gain) (hcnt : cntOf (fun m => decide (pSum ss (dgt m) n = (R : Int))) (2 ^ n) = ways) (hnear : nearTo ss n (pSum ss (fun _ => true) n) (2 ^ n) = gap) :
    Code.wp Try.prog (hdC (tlC 22 bodyOf)) (Exit.then (Code.wp Try.prog (tlC 23 bodyOf) (bodyPost Try.prog Try.f4 fun e w' => e = .returned (.bool true) ∧ Below w0.heap.size w0 w')) (bodyPost Try.prog Try.f4 fun e w' => e = .returned (.bool true) ∧ Below w0.heap.size w0 w')) ⟨#[u0, u1, u2, u3, u4, (.int .i64 (n : Int)), (.slice (some ⟨sb, so, none⟩) n sc), (.slice (some ⟨gb, go, none⟩) n gc), (.int .i64 (R : Int)), (.slice (some ⟨ab, ao, none⟩) (R + 1) ac), u10, u11, (.int .i64 gain), u13, u14, u15, u16, u17, u18, (.int .i64 ways), u20, u21, (.int .i64 gap), u23, u24, u25, u26, u27, u28, u29, (.int .i64 part), u31, u32, (.int .i64 (pSum ss (fun _ => true) n)), u34, (.int .i64 0), (.int .i64 0), (.int .i64 (pSum ss (fun _ => true) n)), u38, u39, u40, u41, u42, u43, u44, u45, u46, u47, u48, u49, u50, u51, u52, u53, u54, u55, u56, u57, u58, u59, u60, u61, u62, u63, u64, u65, u66, u67, u68, u69, u70, u71, u72, u73, u74, u75, u76, u77, u78, u79, u80, u81, u82, u83, u84, u85, u86, u87, u88, u89, u90, u91, u92, u93, u94, u95, u96, u97, u98, u99, u100, u101, u102, u103, u104, u105, u106, u107, u108, u109, u110, u111, u112, u113, u114, u115, u116, u117, u118, u119, u120, u121, u122, u123, u124, u125, u126, u127, u128, u129, u130, u131, u132, u133, u134, u135, u136, u137, u138, u139, u140, u141, u142, u143, u144, u145, u146, u147, u148, u149, u150, u151, u152, u153, u154, u155, u156, u157, u158, u159, u160, u161, u162, u163, u164, u165, u166, u167, u168, u169, u170, u171, u172, u173, u174, u175, u176, u177, u178, u179, u180, u181, u182, u183, u184, u185, u186, u187, u188, u189, u190, u191, u192, u193, u194, u195, u196, u197, u198, u199, u200, u201, u202, u203, u204, u205, u206, u207, u208, u209, u210, u211, u212, u213, u214, u215, u216, u217, u218, u219, u220, u221, u222, u223, u224, u225, u226, u227, u228, u229, u230, u231, u232, u233, u234, u235, u236, u237, u238, u239, u240, u241, u242, u243, u244, u245, u246, u247, u248, u249, u250, u251, u252, u253, u254, u255, u256, u257, u258, u259, u260, u261, u262, u263, u264, u265, u266, u267, u268, u269, u270, u271, u272, u273, u274, u275, u276, u277, u278, u279, u280, u281, u282, u283, u284, u285, u286, u287, u288, u289, u290, u291, u292, u293, u294, u295, u296, u297, u298, u299, u300, u301, u302, u303, u304, u305, u306, u307, u308, u309, u310, u311, u312, u313, u314, u315, u316, u317, u318, u319, u320, u321, u322, u323, u324, u325, u326, u327, u328, u329, u330, u331, u332, u333, u334, u335, u336, u337, u338, u339, u340, u341, u342, u343, u344, u345, u346, u347, u348, u349, u350, u351, u352, u353, u354, u355, u356, u357, u358, u359, u360, u361, u362, u363, u364, u365, u366, u367, u368, u369, u370, u371, u372, u373, u374, u375, u376, u377, u378, u379, u380, u381, u382, u383, u384, u385, u386, u387, u388, u389, u390, u391, u392, u393, u394, u395, u396, u397, u398, u399, u400, u401, u402, u403, u404, u405, u406, u407, u408, u409, u410, u411, u412, u413, u414, u415, u416, u417, u418, u419, u420, u421, u422, u423], []⟩ w := by
  conv => arg 2; whnf
  have h1 := HPk.n1
  have h7 := HPk.n7
  have hr1 := HPk.r1
  have hr2 := HPk.r2
  have HB := Lib.hid hB
  have HP := Lib.hid HPk
  have HS := Lib.hid hS
  have HA := Lib.hid hA
  have HF := Lib.hid hf
  have HBE := Lib.hid hbest
  have HCN := Lib.hid hcnt
  have HNE := Lib.hid hnear
  have htr := pSum_rng (p := fun _ => true) HPk.s0 n
  obtain ⟨_, hsb, SC⟩ := hS.at' (Nat.le_refl _) h1
  obtain ⟨_, hgb, GC⟩ := hG.at' (Nat.le_refl _) h1
  have hsh := (shl_pow n (by omega)).1
  have h128 : 2 ^ n ≤ 128 := Nat.pow_le_pow_right (n := 2) (by decide) h7
  obtain ⟨M, hM⟩ : ∃ M, M = 2 ^ n := ⟨_, rfl⟩
  have hMi : (2 : Int) ^ n = (M : Int) := by rw [hM]; simp
  rw [← hM] at hsh h128 HBE HCN HNE
  obtain ⟨tot, ht⟩ : ∃ t, t = pSum ss (fun _ => true) n := ⟨_, rfl⟩
  have HTT := Lib.hid ht
  rw [← ht] at htr HF HNE ⊢
  have un : IntKind.u64.wrap (n : Int) = (n : Int) := IntWalk.u64_in _ (by omega)
  clear hB HPk hS hG hA hf ht hbest hcnt hnear hM
  go_wp2_with fail
  go_loopw [35, 36, 37, 38] (fun bv cv nv mv wr => ∃ m : Nat, m ≤ M ∧ mv = .int .i64 m ∧ bv = .int .i64 (bestTo ss gs n (R : Int) m) ∧ cv = .int .i64 (cntOf (fun m => decide (pSum ss (dgt m) n = (R : Int))) m) ∧ nv = .int .i64 (nearTo ss n tot m) ∧ wr = w) (fun _ _ _ mv _ => M - (intOf mv).toNat)
  case atStart => exact ⟨0, Nat.zero_le _, rfl, rfl, rfl, rfl, rfl⟩
  case round =>
    obtain ⟨m, hm, rfl, rfl, rfl, rfl, rfl⟩ := hrel
    have hcr := cnt_rng (fun m => decide (pSum ss (dgt m) n = (R : Int))) m
    have HB1 : Hid (bestTo ss gs n (R : Int) (m + 1) = if pSum ss (dgt m) n ≤ (R : Int) then max (bestTo ss gs n (R : Int) m) (pSum gs (dgt m) n) else bestTo ss gs n (R : Int) m) := rfl
    have HC1 : Hid (cntOf (fun m => decide (pSum ss (dgt m) n = (R : Int))) (m + 1) = if decide (pSum ss (dgt m) n = (R : Int)) = true then cntOf (fun m => decide (pSum ss (dgt m) n = (R : Int))) m + 1 else cntOf (fun m => decide (pSum ss (dgt m) n = (R : Int))) m) := rfl
    have HN1 : Hid (nearTo ss n tot (m + 1) = min (nearTo ss n tot m) (max (tot - 2 * pSum ss (dgt m) n) (2 * pSum ss (dgt m) n - tot))) := rfl
    by_cases hmM : m < M
    · have zm : (m : Int) < (M : Int) := by omega
      have HSR := Lib.hid (fun i => pSum_rng (p := dgt m) HP.out.s0 i)
      have HGR := Lib.hid (fun i => pSum_rng (p := dgt m) HP.out.g0 i)
      obtain ⟨B, hBv⟩ : ∃ B, B = bestTo ss gs n (R : Int) m := ⟨_, rfl⟩
      obtain ⟨C, hCv⟩ : ∃ C, C = cntOf (fun m => decide (pSum ss (dgt m) n = (R : Int))) m := ⟨_, rfl⟩
      obtain ⟨V, hVv⟩ : ∃ V, V = nearTo ss n tot m := ⟨_, rfl⟩
      rw [← hBv] at HB1 ⊢
      rw [← hCv] at HC1 hcr ⊢
      rw [← hVv] at HN1 ⊢
      clear hBv hCv hVv
      go_wp2_with fail
      go_loopw [39, 40, 41] (fun sv gv iv wr' => ∃ (i : Nat) (x y : Int), i ≤ n ∧ iv = .int .i64 i ∧ sv = .int .i64 x ∧ gv = .int .i64 y ∧ x = pSum ss (dgt m) i ∧ y = pSum gs (dgt m) i ∧ wr' = wr) (fun _ _ iv _ => n - (intOf iv).toNat)
      case atStart => exact ⟨0, 0, 0, Nat.zero_le _, rfl, rfl, rfl, rfl, rfl, rfl⟩
      case round =>
        obtain ⟨i, x, y, hi, rfl, rfl, rfl, hx, hy, rfl⟩ := hrel
        have hxr := HSR.out i
        have hyr := HGR.out i
        rw [← hx] at hxr
        rw [← hy] at hyr
        by_cases hin : i < n
        · have cs := SC.out wr i (Below.refl _ _) hin
          have cg := GC.out wr i (Below.refl _ _) hin
          have b1 := HP.out.sAt hin
          have b2 := HP.out.gAt hin
          have zi : (i : Int) < (n : Int) := by omega
          have ui : IntKind.u64.wrap (i : Int) = (i : Int) := IntWalk.u64_in _ (by omega)
          have hbd := dgt_one m i (by omega)
          have hx1 : pSum ss (dgt m) (i + 1) = if dgt m i = true then pSum ss (dgt m) i + ss.getD i 0 else pSum ss (dgt m) i := rfl
          have hy1 : pSum gs (dgt m) (i + 1) = if dgt m i = true then pSum gs (dgt m) i + gs.getD i 0 else pSum gs (dgt m) i := rfl
          rw [← hx] at hx1
          rw [← hy] at hy1
          obtain ⟨p, hp⟩ : ∃ p, p = ss.getD i 0 := ⟨_, rfl⟩
          obtain ⟨r, hr⟩ : ∃ p, p = gs.getD i 0 := ⟨_, rfl⟩
          rw [← hp] at cs b1 hx1
          rw [← hr] at cg b2 hy1
          clear hp hr hx hy
          cases hdg : dgt m i
          · rw [hdg] at hbd hx1 hy1
            simp only [if_false, Bool.false_eq_true] at hbd hx1 hy1
            have HX1 := Lib.hid hx1
            have HY1 := Lib.hid hy1
            clear hx1 hy1 hdg
            go_wp2
            go_roundw
            case rel => exact ⟨i + 1, x, y, by omega, by go_num, rfl, rfl, HX1.out.symm, HY1.out.symm, by trivial⟩
            case measure => (simp [intOf]; try omega)
          · rw [hdg] at hbd hx1 hy1
            simp only [if_true] at hbd hx1 hy1
            have HX1 := Lib.hid hx1
            have HY1 := Lib.hid hy1
            clear hx1 hy1 hdg
            go_wp2
            go_roundw
            case rel => exact ⟨i + 1, x + p, y + r, by omega, by go_num, by go_num, by go_num, HX1.out.symm, HY1.out.symm, by trivial⟩
            case measure => (simp [intOf]; try omega)
        · obtain rfl : i = n := by omega
          rw [← hx] at HB1 HC1 HN1
          rw [← hy] at HB1
          clear hx hy
          by_cases hle : x ≤ (R : Int)
          · have HB2 : Hid (bestTo ss gs i (R : Int) (m + 1) = max B y) := by rw [HB1.out, if_pos hle]; exact rfl
            by_cases heq : x = (R : Int)
            · have HC2 : Hid (cntOf (fun m => decide (pSum ss (dgt m) i = (R : Int))) (m + 1) = C + 1) := by rw [HC1.out, if_pos (decide_eq_true heq)]; exact rfl
              clear HB1 HC1
              subst heq
              have heq' : ((R : Int) == (R : Int)) = true := beq_iff_eq.2 rfl
              go_wp2
              go_roundw
              case rel => exact ⟨m + 1, by omega, by go_num, by rw [HB2.out], by rw [HC2.out], by rw [HN1.out], by trivial⟩
              case measure => (simp [intOf]; try omega)
            · have HC2 : Hid (cntOf (fun m => decide (pSum ss (dgt m) i = (R : Int))) (m + 1) = C) := by rw [HC1.out, if_neg (by simp [heq])]; exact rfl
              have heq' : (x == (R : Int)) = false := beq_eq_false_iff_ne.2 heq
              clear HB1 HC1
              go_wp2
              go_roundw
              case rel => exact ⟨m + 1, by omega, by go_num, by rw [HB2.out], by rw [HC2.out], by rw [HN1.out], by trivial⟩
              case measure => (simp [intOf]; try omega)
          · have HB2 : Hid (bestTo ss gs i (R : Int) (m + 1) = B) := by rw [HB1.out, if_neg hle]; exact rfl
            have heq : ¬ x = (R : Int) := by omega
            have HC2 : Hid (cntOf (fun m => decide (pSum ss (dgt m) i = (R : Int))) (m + 1) = C) := by rw [HC1.out, if_neg (by simp [heq])]; exact rfl
            have heq' : (x == (R : Int)) = false := beq_eq_false_iff_ne.2 heq
            clear HB1 HC1
            go_wp2
            go_roundw
            case rel => exact ⟨m + 1, by omega, by go_num, by rw [HB2.out], by rw [HC2.out], by rw [HN1.out], by trivial⟩
            case measure => (simp [intOf]; try omega)
    · obtain rfl : m = M := by omega
      have zm : ¬ (m : Int) < (m : Int) := by omega
      rw [HBE.out, HCN.out, HNE.out]
      clear HB1 HC1 HN1 hcr
      go_wp2_with fail
      rw [HTT.out]
      refine step_link (y := hdC (tlC 23 bodyOf)) (z := tlC 24 bodyOf) rfl ?_
      exact (packsC w0 wr HB.out HP.out HS.out HA.out hp0 hp1 (by rw [← HTT.out]; exact HF.out))
set_option maxHeartbeats 4000000 in
set_option maxRecDepth 100000 in
theorem packsB0 (w0 w : World) {u0 u1 u2 u3 u4 u10 u11 u13 u14 u15 u16 u17 u18 u20 u21 u23 u24 u25 u26 u27 u28 u29 u31 u32 u34 u35 u36 u37 u38 u39 u40 u41 u42 u43 u44 u45 u46 u47 u48 u49 u50 u51 u52 u53 u54 u55 u56 u57 u58 u59 u60 u61 u62 u63 u64 u65 u66 u67 u68 u69 u70 u71 u72 u73 u74 u75 u76 u77 u78 u79 u80 u81 u82 u83 u84 u85 u86 u87 u88 u89 u90 u91 u92 u93 u94 u95 u96 u97 u98 u99 u100 u101 u102 u103 u104 u105 u106 u107 u108 u109 u110 u111 u112 u113 u114 u115 u116 u117 u118 u119 u120 u121 u122 u123 u124 u125 u126 u127 u128 u129 u130 u131 u132 u133 u134 u135 u136 u137 u138 u139 u140 u141 u142 u143 u144 u145 u146 u147 u148 u149 u150 u151 u152 u153 u154 u155 u156 u157 u158 u159 u160 u161 u162 u163 u164 u165 u166 u167 u168 u169 u170 u171 u172 u173 u174 u175 u176 u177 u178 u179 u180 u181 u182 u183 u184 u185 u186 u187 u188 u189 u190 u191 u192 u193 u194 u195 u196 u197 u198 u199 u200 u201 u202 u203 u204 u205 u206 u207 u208 u209 u210 u211 u212 u213 u214 u215 u216 u217 u218 u219 u220 u221 u222 u223 u224 u225 u226 u227 u228 u229 u230 u231 u232 u233 u234 u235 u236 u237 u238 u239 u240 u241 u242 u243 u244 u245 u246 u247 u248 u249 u250 u251 u252 u253 u254 u255 u256 u257 u258 u259 u260 u261 u262 u263 u264 u265 u266 u267 u268 u269 u270 u271 u272 u273 u274 u275 u276 u277 u278 u279 u280 u281 u282 u283 u284 u285 u286 u287 u288 u289 u290 u291 u292 u293 u294 u295 u296 u297 u298 u299 u300 u301 u302 u303 u304 u305 u306 u307 u308 u309 u310 u311 u312 u313 u314 u315 u316 u317 u318 u319 u320 u321 u322 u323 u324 u325 u326 u327 u328 u329 u330 u331 u332 u333 u334 u335 u336 u337 u338 u339 u340 u341 u342 u343 u344 u345 u346 u347 u348 u349 u350 u351 u352 u353 u354 u355 u356 u357 u358 u359 u360 u361 u362 u363 u364 u365 u366 u367 u368 u369 u370 u371 u372 u373 u374 u375 u376 u377 u378 u379 u380 u381 u382 u383 u384 u385 u386 u387 u388 u389 u390 u391 u392 u393 u394 u395 u396 u397 u398 u399 u400 u401 u402 u403 u404 u405 u406 u407 u408 u409 u410 u411 u412 u413 u414 u415 u416 u417 u418 u419 u420 u421 u422 u423 : Value} {n R sb so sc gb go gc ab ao ac : Nat} {ss gs : List Int} {gain ways gap part : Int} (hB : Below w0.heap.size w0 w) (HPk : PkH n R ss gs) (hS : Ints w 0 w.heap.size (.slice (some ⟨sb, so, none⟩) n sc) ss) (hG : Ints w 0 w.heap.size (.slice (some ⟨gb, go, none⟩) n gc) gs) (hA : Ints w 0 w.heap.size (.slice (some ⟨ab, ao, none⟩) (R + 1) ac) (tabRow ss gs R n)) (hp0 : 0 ≤ part) (hp1 : part ≤ 84) (hf : farOf (pSum ss (fun _ => true) n) part = gap) (hbest : bestTo ss gs n (R : Int) (2 ^ n) = gain) (hcnt : cntOf (fun m => decide (pSum ss (dgt m) n = (R : Int))) (2 ^ n) = ways) (hnear : nearTo ss n (pSum ss (fun _ => true) n) (2 ^ n) = gap) :
    Code.wp Try.prog (hdC (tlC 19 bodyOf)) (Exit.then (Code.wp Try.prog (tlC 20 bodyOf) (bodyPost Try.prog Try.f4 fun e w' => e = .returned (.bool true) ∧ Below w0.heap.size w0 w')) (bodyPost Try.prog Try.f4 fun e w' => e = .returned (.bool true) ∧ Below w0.heap.size w0 w')) ⟨#[u0, u1, u2, u3, u4, (.int .i64 (n : Int)), (.slice (some ⟨sb, so, none⟩) n sc), (.slice (some ⟨gb, go, none⟩) n gc), (.int .i64 (R : Int)), (.slice (some ⟨ab, ao, none⟩) (R + 1) ac), u10, u11, (.int .i64 gain), u13, u14, u15, u16, u17, u18, (.int .i64 ways), u20, u21, (.int .i64 gap), u23, u24, u25, u26, u27, u28, u29, (.int .i64 part), u31, u32, (.int .i64 (pSum ss (fun _ => true) n)), u34, u35, u36, u37, u38, u39, u40, u41, u42, u43, u44, u45, u46, u47, u48, u49, u50, u51, u52, u53, u54, u55, u56, u57, u58, u59, u60, u61, u62, u63, u64, u65, u66, u67, u68, u69, u70, u71, u72, u73, u74, u75, u76, u77, u78, u79, u80, u81, u82, u83, u84, u85, u86, u87, u88, u89, u90, u91, u92, u93, u94, u95, u96, u97, u98, u99, u100, u101, u102, u103, u104, u105, u106, u107, u108, u109, u110, u111, u112, u113, u114, u115, u116, u117, u118, u119, u120, u121, u122, u123, u124, u125, u126, u127, u128, u129, u130, u131, u132, u133, u134, u135, u136, u137, u138, u139, u140, u141, u142, u143, u144, u145, u146, u147, u148, u149, u150, u151, u152, u153, u154, u155, u156, u157, u158, u159, u160, u161, u162, u163, u164, u165, u166, u167, u168, u169, u170, u171, u172, u173, u174, u175, u176, u177, u178, u179, u180, u181, u182, u183, u184, u185, u186, u187, u188, u189, u190, u191, u192, u193, u194, u195, u196, u197, u198, u199, u200, u201, u202, u203, u204, u205, u206, u207, u208, u209, u210, u211, u212, u213, u214, u215, u216, u217, u218, u219, u220, u221, u222, u223, u224, u225, u226, u227, u228, u229, u230, u231, u232, u233, u234, u235, u236, u237, u238, u239, u240, u241, u242, u243, u244, u245, u246, u247, u248, u249, u250, u251, u252, u253, u254, u255, u256, u257, u258, u259, u260, u261, u262, u263, u264, u265, u266, u267, u268, u269, u270, u271, u272, u273, u274, u275, u276, u277, u278, u279, u280, u281, u282, u283, u284, u285, u286, u287, u288, u289, u290, u291, u292, u293, u294, u295, u296, u297, u298, u299, u300, u301, u302, u303, u304, u305, u306, u307, u308, u309, u310, u311, u312, u313, u314, u315, u316, u317, u318, u319, u320, u321, u322, u323, u324, u325, u326, u327, u328, u329, u330, u331, u332, u333, u334, u335, u336, u337, u338, u339, u340, u341, u342, u343, u344, u345, u346, u347, u348, u349, u350, u351, u352, u353, u354, u355, u356, u357, u358, u359, u360, u361, u362, u363, u364, u365, u366, u367, u368, u369, u370, u371, u372, u373, u374, u375, u376, u377, u378, u379, u380, u381, u382, u383, u384, u385, u386, u387, u388, u389, u390, u391, u392, u393, u394, u395, u396, u397, u398, u399, u400, u401, u402, u403, u404, u405, u406, u407, u408, u409, u410, u411, u412, u413, u414, u415, u416, u417, u418, u419, u420, u421, u422, u423], []⟩ w := by
  conv => arg 2; whnf
  go_wp2_with fail
  refine step_link (y := hdC (tlC 20 bodyOf)) (z := tlC 21 bodyOf) rfl ?_
  conv => arg 2; whnf
  go_wp2_with fail
  refine step_link (y := hdC (tlC 21 bodyOf)) (z := tlC 22 bodyOf) rfl ?_
  conv => arg 2; whnf
  go_wp2_with fail
  refine step_link (y := hdC (tlC 22 bodyOf)) (z := tlC 23 bodyOf) rfl ?_
  exact (packsB w0 w hB HPk hS hG hA hp0 hp1 hf hbest hcnt hnear)
end Go.Proofs.Ytkankfdpodofjaa
