/-
  FnPacks, the loads of the bins.
-/
import Derived.Test.YtkankfdpodofjaaPackS
import Derived.Test.YtkankfdpodofjaaPackF
import Derived.Test.YtkankfdpodofjaaPackW
import Derived.Deep.DeepCutAuto
namespace Go.Proofs.Ytkankfdpodofjaa
open Go.RowKit
set_option linter.unusedVariables false
set_option maxRecDepth 100000

def tlC : Nat → Code → Code
  | 0, c => c
  | n + 1, .seq _ b => tlC n b
  | _, c => c
def hdC : Code → Code
  | .seq a _ => a
  | c => c
theorem join_part {P : Program} {x y : Code} {Q : Exit → Act → World → Prop} {a : Act} {w : World} {K : Act → World → Prop} (hK : ∀ a w, Code.wp P y Q a w → K a w)
    (h : Code.wp P x (Exit.then (Code.wp P y Q) Q) a w) : Code.wp P x (Exit.then K Q) a w :=
  Code.wp_mono (fun e a w h => by cases e <;> first | exact hK _ _ h | exact h) h
noncomputable def bodyOf : Code := Try.f4.body.getD .skip
theorem step_link {P : Program} {x y z : Code} {Q : Exit → Act → World → Prop} {a : Act} {w : World} (e : x = .seq y z) (h : Code.wp P y (Exit.then (Code.wp P z Q) Q) a w) : Code.wp P x Q a w := by
  rw [e]; exact wp_seq h
def ldTo (ss out : List Int) (n t : Nat) : List Int := (List.range n).map fun (b : Nat) => pSum ss (fun j => out.getD j 0 == (b : Int)) t
theorem ldTo_len (ss out : List Int) (n t : Nat) : (ldTo ss out n t).length = n := by simp [ldTo]
theorem ldTo_zero (ss out : List Int) (n : Nat) : ldTo ss out n 0 = List.replicate n 0 := by
  apply List.ext_getElem (by simp [ldTo_len])
  intro k h1 h2
  simp [ldTo, pSum]
theorem ldTo_at (ss out : List Int) {n t b : Nat} (h : b < n) : (ldTo ss out n t).getD b 0 = pSum ss (fun j => out.getD j 0 == (b : Int)) t := by simp [ldTo, List.getD, h]
theorem ldTo_step {ss out : List Int} {n t c : Nat} (hc : out.getD t 0 = (c : Int)) : (ldTo ss out n t).set c (pSum ss (fun j => out.getD j 0 == (c : Int)) t + ss.getD t 0) = ldTo ss out n (t + 1) := by
  apply List.ext_getElem (by rw [List.length_set, ldTo_len, ldTo_len])
  intro k h1 h2
  rw [List.getElem_set]
  simp only [ldTo, List.getElem_map, List.getElem_range, pSum]
  by_cases e : c = k
  · subst e
    rw [if_pos rfl, hc]; simp
  · rw [if_neg e, hc, show ((c : Int) == (k : Int)) = false from beq_eq_false_iff_ne.2 (by omega)]; simp
theorem Ints.at' {w : World} {l h n cap off b : Nat} {zs : List Int} (hv : Ints w l h (.slice (some ⟨b, off, none⟩) n cap) zs) (hh : h ≤ w.heap.size) (h1 : 1 ≤ n) :
    zs.length = n ∧ b < w.heap.size ∧ Hid (∀ (wx : World) (j : Nat), Below w.heap.size w wx → j < n → wx.cell? ⟨b, off + j, none⟩ = some (.int .i64 (zs.getD j 0))) := by
  have hl : zs.length = n := by
    obtain ⟨a, c, e, _⟩ := hv.out
    injection e with e1 e2 e3
    exact e2.symm
  obtain ⟨b', off', cap', e, _, _, h3, h4⟩ := hv.seen hh hl h1
  injection e with e1 e2 e3
  injection e1 with e1
  injection e1 with x1 x2
  subst x1; subst x2
  exact ⟨hl, h3, h4⟩
set_option maxHeartbeats 4000000 in
set_option maxRecDepth 100000 in
theorem packsE (w0 w : World) {u0 u1 u2 u3 u4 u7 u9 u10 u11 u12 u13 u14 u15 u16 u17 u18 u19 u20 u21 u22 u23 u24 u25 u26 u27 u28 u29 u30 u31 u32 u33 u34 u35 u36 u37 u38 u39 u40 u41 u42 u45 u46 u47 u48 u49 u50 u51 u52 u53 u54 u55 u56 u57 u58 u59 u60 u61 u62 u63 u64 u65 u66 u67 u68 u69 u70 u71 u72 u73 u74 u75 u76 u77 u78 u79 u80 u81 u82 u83 u84 u85 u86 u87 u88 u89 u90 u91 u92 u93 u94 u95 u96 u97 u98 u99 u100 u101 u102 u103 u104 u105 u106 u107 u108 u109 u110 u111 u112 u113 u114 u115 u116 u117 u118 u119 u120 u121 u122 u123 u124 u125 u126 u127 u128 u129 u130 u131 u132 u133 u134 u135 u136 u137 u138 u139 u140 u141 u142 u143 u144 u145 u146 u147 u148 u149 u150 u151 u152 u153 u154 u155 u156 u157 u158 u159 u160 u161 u162 u163 u164 u165 u166 u167 u168 u169 u170 u171 u172 u173 u174 u175 u176 u177 u178 u179 u180 u181 u182 u183 u184 u185 u186 u187 u188 u189 u190 u191 u192 u193 u194 u195 u196 u197 u198 u199 u200 u201 u202 u203 u204 u205 u206 u207 u208 u209 u210 u211 u212 u213 u214 u215 u216 u217 u218 u219 u220 u221 u222 u223 u224 u225 u226 u227 u228 u229 u230 u231 u232 u233 u234 u235 u236 u237 u238 u239 u240 u241 u242 u243 u244 u245 u246 u247 u248 u249 u250 u251 u252 u253 u254 u255 u256 u257 u258 u259 u260 u261 u262 u263 u264 u265 u266 u267 u268 u269 u270 u271 u272 u273 u274 u275 u276 u277 u278 u279 u280 u281 u282 u283 u284 u285 u286 u287 u288 u289 u290 u291 u292 u293 u294 u295 u296 u297 u298 u299 u300 u301 u302 u303 u304 u305 u306 u307 u308 u309 u310 u311 u312 u313 u314 u315 u316 u317 u318 u319 u320 u321 u322 u323 u324 u325 u326 u327 u328 u329 u330 u331 u332 u333 u334 u335 u336 u337 u338 u339 u340 u341 u342 u343 u344 u345 u346 u347 u348 u349 u350 u351 u352 u353 u354 u355 u356 u357 u358 u359 u360 u361 u362 u363 u364 u365 u366 u367 u368 u369 u370 u371 u372 u373 u374 u375 u376 u377 u378 u379 u380 u381 u382 u383 u384 u385 u386 u387 u388 u389 u390 u391 u392 u393 u394 u395 u396 u397 u398 u399 u400 u401 u402 u403 u404 u405 u406 u407 u408 u409 u410 u411 u412 u413 u414 u415 u416 u417 u418 u419 u420 u421 u422 u423 : Value} {n R used sb so sc ub uo uc : Nat} {ss gs out : List Int} (hB : Below w0.heap.size w0 w) (HPk : PkH n R ss gs) (hS : Ints w 0 w.heap.size (.slice (some ⟨sb, so, none⟩) n sc) ss) (hU : Ints w 0 w.heap.size (.slice (some ⟨ub, uo, none⟩) n uc) out) (hbin : BinS ss R n used out) :
    Code.wp Try.prog (hdC (tlC 28 bodyOf)) (Exit.then (Code.wp Try.prog (tlC 29 bodyOf) (bodyPost Try.prog Try.f4 fun e w' => e = .returned (.bool true) ∧ Below w0.heap.size w0 w')) (bodyPost Try.prog Try.f4 fun e w' => e = .returned (.bool true) ∧ Below w0.heap.size w0 w')) ⟨#[u0, u1, u2, u3, u4, (.int .i64 (n : Int)), (.slice (some ⟨sb, so, none⟩) n sc), u7, (.int .i64 (R : Int)), u9, u10, u11, u12, u13, u14, u15, u16, u17, u18, u19, u20, u21, u22, u23, u24, u25, u26, u27, u28, u29, u30, u31, u32, u33, u34, u35, u36, u37, u38, u39, u40, u41, u42, (.slice (some ⟨ub, uo, none⟩) n uc), (.int .i64 (used : Int)), u45, u46, u47, u48, u49, u50, u51, u52, u53, u54, u55, u56, u57, u58, u59, u60, u61, u62, u63, u64, u65, u66, u67, u68, u69, u70, u71, u72, u73, u74, u75, u76, u77, u78, u79, u80, u81, u82, u83, u84, u85, u86, u87, u88, u89, u90, u91, u92, u93, u94, u95, u96, u97, u98, u99, u100, u101, u102, u103, u104, u105, u106, u107, u108, u109, u110, u111, u112, u113, u114, u115, u116, u117, u118, u119, u120, u121, u122, u123, u124, u125, u126, u127, u128, u129, u130, u131, u132, u133, u134, u135, u136, u137, u138, u139, u140, u141, u142, u143, u144, u145, u146, u147, u148, u149, u150, u151, u152, u153, u154, u155, u156, u157, u158, u159, u160, u161, u162, u163, u164, u165, u166, u167, u168, u169, u170, u171, u172, u173, u174, u175, u176, u177, u178, u179, u180, u181, u182, u183, u184, u185, u186, u187, u188, u189, u190, u191, u192, u193, u194, u195, u196, u197, u198, u199, u200, u201, u202, u203, u204, u205, u206, u207, u208, u209, u210, u211, u212, u213, u214, u215, u216, u217, u218, u219, u220, u221, u222, u223, u224, u225, u226, u227, u228, u229, u230, u231, u232, u233, u234, u235, u236, u237, u238, u239, u240, u241, u242, u243, u244, u245, u246, u247, u248, u249, u250, u251, u252, u253, u254, u255, u256, u257, u258, u259, u260, u261, u262, u263, u264, u265, u266, u267, u268, u269, u270, u271, u272, u273, u274, u275, u276, u277, u278, u279, u280, u281, u282, u283, u284, u285, u286, u287, u288, u289, u290, u291, u292, u293, u294, u295, u296, u297, u298, u299, u300, u301, u302, u303, u304, u305, u306, u307, u308, u309, u310, u311, u312, u313, u314, u315, u316, u317, u318, u319, u320, u321, u322, u323, u324, u325, u326, u327, u328, u329, u330, u331, u332, u333, u334, u335, u336, u337, u338, u339, u340, u341, u342, u343, u344, u345, u346, u347, u348, u349, u350, u351, u352, u353, u354, u355, u356, u357, u358, u359, u360, u361, u362, u363, u364, u365, u366, u367, u368, u369, u370, u371, u372, u373, u374, u375, u376, u377, u378, u379, u380, u381, u382, u383, u384, u385, u386, u387, u388, u389, u390, u391, u392, u393, u394, u395, u396, u397, u398, u399, u400, u401, u402, u403, u404, u405, u406, u407, u408, u409, u410, u411, u412, u413, u414, u415, u416, u417, u418, u419, u420, u421, u422, u423], []⟩ w := by
  conv => arg 2; whnf
  have HB := Lib.hid hB
  have HP := Lib.hid HPk
  have HBN := Lib.hid hbin
  have h1 := HPk.n1
  have h7 := HPk.n7
  have hr1 := HPk.r1
  have hr2 := HPk.r2
  have hs0 : w0.heap.size ≤ w.heap.size := hB.size
  obtain ⟨_, hsb, SC⟩ := hS.at' (Nat.le_refl _) h1
  obtain ⟨_, hub, UC⟩ := hU.at' (Nat.le_refl _) h1
  have hus := hbin.us
  have HM := raise_made n (by omega)
  obtain ⟨W1, hW1⟩ : ∃ X, X = w.alloc (.cells (madeCells #[Value.int .i64 0] n) 2) := ⟨_, rfl⟩
  obtain ⟨g, hg⟩ : ∃ b, b = w.heap.size := ⟨_, rfl⟩
  have HR1 : Hid (RowI W1 w.heap.size g n n (ldTo ss out n 0)) := by rw [Hid, ldTo_zero, hW1, hg]; exact raise_row w n (by omega)
  have HB1 : Hid (Below w.heap.size w W1) := by rw [hW1]; exact (Below.refl _ _).alloc (Nat.le_refl _) _
  have hgw : w.heap.size ≤ g := by omega
  clear hB HPk hS hU hbin
  go_upto_region 56 with (fail)
  rw [← hW1, ← hg]
  clear hW1 hg HM
  conv => arg 2; whnf
  go_wp2_with fail
  go_loopw [49] (fun tv wr => ∃ t : Nat, t ≤ n ∧ tv = .int .i64 t ∧ Hid (RowI wr w.heap.size g n n (ldTo ss out n t)) ∧ Hid (Below w.heap.size w wr)) (fun tv _ => n - (intOf tv).toNat)
  case atStart => exact ⟨0, Nat.zero_le _, rfl, HR1, HB1⟩
  case round =>
    clear HR1 HB1
    obtain ⟨t, ht, rfl, HR, HBR⟩ := hrel
    have hsr := HBR.out.size
    by_cases htn : t < n
    · have hor := HBN.out.rng t htn
      have cu := UC.out wr t HBR.out htn
      have cs := SC.out wr t HBR.out htn
      have hst := HP.out.sAt htn
      obtain ⟨c, hc⟩ : ∃ c : Nat, out.getD t 0 = (c : Int) := ⟨(out.getD t 0).toNat, by omega⟩
      have HST := Lib.hid (ldTo_step (ss := ss) (n := n) hc)
      rw [hc] at hor cu
      have hcn : c < n := by omega
      have cl := HR.out.cell hcn
      have fl := HR.out.frozen c
      rw [ldTo_at ss out hcn] at cl
      have hyr := pSum_rng (p := fun j => out.getD j 0 == (c : Int)) HP.out.s0 t
      obtain ⟨x, hx⟩ : ∃ x, x = ss.getD t 0 := ⟨_, rfl⟩
      rw [← hx] at cs hst HST
      obtain ⟨y, hy⟩ : ∃ y, y = pSum ss (fun j => out.getD j 0 == (c : Int)) t := ⟨_, rfl⟩
      rw [← hy] at cl hyr HST
      have a1 : ¬ (c : Int) < 0 := by omega
      have a2 : ¬ (used : Int) ≤ (c : Int) := by omega
      have a2' : ¬ used ≤ c := by omega
      have a3 : ¬ (n : Int) < (used : Int) := by omega
      have a3' : ¬ n < used := by omega
      have zt : (t : Int) < (n : Int) := by omega
      have zc : (c : Int) < (n : Int) := by omega
      have HRR : Hid (∀ u, RowI (wr.setCell ⟨g, c, none⟩ (.int .i64 u)) w.heap.size g n n ((ldTo ss out n t).set c u)) := fun u => HR.out.stored c u
      have HBB : Hid (∀ u, Below w.heap.size w (wr.setCell ⟨g, c, none⟩ (.int .i64 u))) := fun u => HBR.out.setCell hgw _
      clear hc hx hy
      go_wp2_with fail
      go_region
      have hR9 : RowI ((wr.setCell ⟨g, c, none⟩ (.int .i64 (y + x))).drew) w.heap.size g n n ((ldTo ss out n t).set c (y + x)) := (HRR.out (y + x)).drewN 1
      rw [HST.out] at hR9
      have hB9 : Below w.heap.size w ((wr.setCell ⟨g, c, none⟩ (.int .i64 (y + x))).drew) := (HBB.out (y + x)).trans ((Drew.one _ 1).below _)
      generalize hw9 : ((wr.setCell ⟨g, c, none⟩ (.int .i64 (y + x))).drew) = w9 at hR9 hB9 ⊢
      clear hw9 HST HRR HBB cl fl cu cs
      have HR9 := Lib.hid hR9
      have HB9 := Lib.hid hB9
      clear hR9 hB9
      go_wp2
      go_roundw
      case rel => exact ⟨t + 1, by omega, by go_num, HR9, HB9⟩
      case measure => (simp [intOf]; try omega)
    · obtain rfl : t = n := by omega
      obtain ⟨w3, hw3⟩ : ∃ X, X = wr := ⟨_, rfl⟩
      rw [← hw3] at HR HBR
      rw [← hw3]
      clear hw3
      go_upto_region 62 with (fail)
      go_wp2_with fail
      go_loopw [50] (fun iv wr => ∃ i : Nat, i ≤ t ∧ iv = .int .i64 i ∧ wr = w3) (fun iv _ => t - (intOf iv).toNat)
      case atStart => exact ⟨0, Nat.zero_le _, rfl, rfl⟩
      case round =>
        obtain ⟨i, hi, rfl, rfl⟩ := hrel
        by_cases hin : i < t
        · have cl := HR.out.cell hin
          rw [ldTo_at ss out hin] at cl
          have zi : (i : Int) < (t : Int) := by omega
          have hyr := pSum_rng (p := fun j => out.getD j 0 == (i : Int)) HP.out.s0 t
          have hld : Hid (i < used → 1 ≤ pSum ss (fun j => out.getD j 0 == (i : Int)) t ∧ pSum ss (fun j => out.getD j 0 == (i : Int)) t ≤ R) := fun h => HBN.out.load i h
          have hnl : Hid (used ≤ i → pSum ss (fun j => out.getD j 0 == (i : Int)) t = 0) := fun h => by
            have : ∀ k, k ≤ t → pSum ss (fun j => out.getD j 0 == (i : Int)) k = 0 := by
              intro k
              induction k with
              | zero => intro _; rfl
              | succ k ih =>
                intro hk
                have := HBN.out.rng k hk
                rw [pSum, ih (by omega), show (out.getD k 0 == (i : Int)) = false from beq_eq_false_iff_ne.2 (by omega)]; simp
            exact this t (Nat.le_refl _)
          obtain ⟨y, hy⟩ : ∃ y, y = pSum ss (fun j => out.getD j 0 == (i : Int)) t := ⟨_, rfl⟩
          rw [← hy] at cl hyr hld hnl
          clear hy
          by_cases hiu : i < used
          · obtain ⟨l1, l2⟩ := hld.out hiu
            have b1 : ¬ (R : Int) < y := by omega
            have b2 : ¬ y < 1 := by omega
            have b3 : (i : Int) < (used : Int) := by omega
            clear hld hnl
            go_wp2
            go_roundw
            case rel => exact ⟨i + 1, by omega, by go_num, by trivial⟩
            case measure => (simp [intOf]; try omega)
          · obtain rfl := hnl.out (by omega)
            have b1 : ¬ (R : Int) < 0 := by omega
            have b3 : ¬ (i : Int) < (used : Int) := by omega
            clear hld hnl
            go_wp2
            go_roundw
            case rel => exact ⟨i + 1, by omega, by go_num, by trivial⟩
            case measure => (simp [intOf]; try omega)
        · obtain rfl : i = t := by omega
          go_wp2
          go_ret
          exact ⟨by simp, HB.out.trans (HBR.out.mono hs0)⟩
end Go.Proofs.Ytkankfdpodofjaa
