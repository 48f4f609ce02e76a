/-
  FnTurns, from the letters of AtMostForm on: counts of at most so many.
-/
import Derived.Test.YtcpbgjnijhcpkaaTurnsP
import Derived.Test.YtcpbgjnijhcpkaaAt
import Derived.Test.YtcpbgjnijhcpkaaAtMostI
import Derived.Test.YtcpbgjnijhcpkaaOwnV
import Derived.Test.YtcpbgjnijhcpkaaApp2
import Derived.Deep.DeepCutAuto
namespace Go.Proofs.Ytcpbgjnijhcpkaa
open Go.RowKit
set_option linter.unusedVariables false
set_option maxRecDepth 100000

def tlC : Nat → Code → Code
  | 0, c => c
  | n + 1, .seq _ b => tlC n b
  | _, c => c
def hdC : Code → Code
  | .seq a _ => a
  | c => c
theorem join_part {P : Program} {x y : Code} {Q : Exit → Act → World → Prop} {a : Act} {w : World} {K : Act → World → Prop} (hK : ∀ a w, Code.wp P y Q a w → K a w)
    (h : Code.wp P x (Exit.then (Code.wp P y Q) Q) a w) : Code.wp P x (Exit.then K Q) a w :=
  Code.wp_mono (fun e a w h => by cases e <;> first | exact hK _ _ h | exact h) h
noncomputable def bodyOf : Code := Try.f5.body.getD .skip
theorem ownB_shape {w : World} {lo hi : Nat} {v : Value} {zs : List Bool} (h : OwnB w lo hi v zs) : ∃ a cap, v = .slice a zs.length cap := by
  rcases h.rowOf with ⟨rfl, rfl⟩ | ⟨g, cap, rfl, _⟩
  · exact ⟨none, 0, rfl⟩
  · exact ⟨_, _, rfl⟩
theorem evenGo_take {vs : List Bool} {row : List Int} {j : Nat} (h : j < row.length) : evenGo vs true (row.take (j + 1)) = if vs.getD (row[j].toNat - 1) false then !evenGo vs true (row.take j) else evenGo vs true (row.take j) := by
  rw [List.take_succ_eq_append_getElem h]
  unfold evenGo
  rw [List.foldl_append]
  rfl
set_option maxHeartbeats 4000000 in
set_option maxRecDepth 100000 in
theorem turns5 (w0 w : World) {u2 u3 u4 u5 u6 u7 u8 u9 u10 u11 u12 u13 u14 u15 u16 u17 u18 u19 u20 u21 u22 u23 u24 u25 u26 u27 u28 u29 u30 u31 u32 u33 u34 u36 u37 u38 u39 u40 u41 u42 u43 u46 u47 u48 u49 u50 u51 u52 u53 u54 u55 u56 u57 u58 u59 u60 u61 u62 u63 u64 u65 u66 u67 u68 u69 u70 u71 u72 u73 u74 u75 u76 u77 u78 u79 u80 u81 u82 u83 u84 u85 u86 u87 u88 u89 u90 u91 u92 u93 u94 u95 u96 u97 u98 u99 u100 u101 u102 u103 u104 u105 u106 u107 u108 u109 u110 u111 u112 u113 u114 u115 u116 u117 u118 u119 u120 u121 u122 u123 u124 u125 u126 u127 u128 u129 u130 u131 u132 u133 u134 u135 u136 u137 u138 u139 u140 u141 u142 u143 u144 u145 u146 u147 u148 u149 u150 u151 u152 u153 u154 u155 u156 u157 u158 u159 u160 u161 u162 u163 u164 u165 u166 u167 u168 u169 u170 u171 u172 u173 u174 u175 u176 u177 u178 u179 u180 u181 u182 u183 u184 u185 u186 u187 u188 u189 u190 u191 u192 u193 u194 u195 u196 u197 u198 u199 u200 u201 u202 u203 u204 u205 u206 u207 u208 u209 u210 u211 u212 u213 u214 u215 u216 u217 u218 u219 u220 u221 u222 u223 u224 u225 u226 u227 u228 u229 u230 u231 u232 u233 u234 u235 u236 u237 u238 u239 u240 u241 u242 u243 u244 u245 u246 u247 u248 u249 u250 u251 u252 u253 u254 u255 u256 u257 u258 u259 u260 u261 u262 u263 u264 u265 u266 u267 u268 u269 u270 u271 u272 u273 u274 u275 u276 u277 u278 u279 u280 u281 u282 u283 u284 u285 u286 u287 u288 u289 u290 u291 u292 u293 u294 u295 u296 u297 u298 u299 u300 u301 u302 u303 u304 u305 u306 u307 u308 u309 u310 u311 u312 u313 u314 u315 u316 u317 u318 u319 u320 u321 u322 u323 u324 u325 u326 u327 u328 u329 u330 u331 u332 u333 u334 u335 u336 u337 u338 u339 u340 u341 u342 u343 u344 u345 u346 u347 u348 u349 u350 u351 u352 u353 u354 u355 u356 u357 u358 u359 u360 u361 u362 u363 u364 u365 u366 u367 u368 u369 u370 u371 u372 u373 u374 u375 u376 u377 u378 u379 u380 : Value} {v0 v1 : Value} {z0 z1 : List Int} (hB : Below w0.heap.size w0 w) (h0 : Byts w0 0 w0.heap.size v0 z0) (h1 : Byts w0 0 w0.heap.size v1 z1) (L : Nat) (hL1 : 1 ≤ L) (hL6 : L ≤ 6) {rv ov : Value} {rows : List (List Int)} {odd : List Bool} (hr : Intss w 0 w.heap.size rv rows) (ho : Bools w 0 w.heap.size ov odd) (hlen : odd.length = rows.length) (h3 : rows.length ≤ 3) (hon : ∀ r ∈ rows, onGo (L : Int) 0 r = true) :
    Code.wp Try.prog (hdC (tlC 33 bodyOf)) (Exit.then (Code.wp Try.prog (tlC 34 bodyOf) (bodyPost Try.prog Try.f5 fun e w' => e = .returned (.bool true) ∧ Below w0.heap.size w0 w')) (bodyPost Try.prog Try.f5 fun e w' => e = .returned (.bool true) ∧ Below w0.heap.size w0 w')) ⟨#[v0, v1, u2, u3, u4, u5, u6, u7, u8, u9, u10, u11, u12, u13, u14, u15, u16, u17, u18, u19, u20, u21, u22, u23, u24, u25, u26, u27, u28, u29, u30, u31, u32, u33, u34, (.int .i64 (L : Int)), u36, u37, u38, u39, u40, u41, u42, u43, rv, ov, u46, u47, u48, u49, u50, u51, u52, u53, u54, u55, u56, u57, u58, u59, u60, u61, u62, u63, u64, u65, u66, u67, u68, u69, u70, u71, u72, u73, u74, u75, u76, u77, u78, u79, u80, u81, u82, u83, u84, u85, u86, u87, u88, u89, u90, u91, u92, u93, u94, u95, u96, u97, u98, u99, u100, u101, u102, u103, u104, u105, u106, u107, u108, u109, u110, u111, u112, u113, u114, u115, u116, u117, u118, u119, u120, u121, u122, u123, u124, u125, u126, u127, u128, u129, u130, u131, u132, u133, u134, u135, u136, u137, u138, u139, u140, u141, u142, u143, u144, u145, u146, u147, u148, u149, u150, u151, u152, u153, u154, u155, u156, u157, u158, u159, u160, u161, u162, u163, u164, u165, u166, u167, u168, u169, u170, u171, u172, u173, u174, u175, u176, u177, u178, u179, u180, u181, u182, u183, u184, u185, u186, u187, u188, u189, u190, u191, u192, u193, u194, u195, u196, u197, u198, u199, u200, u201, u202, u203, u204, u205, u206, u207, u208, u209, u210, u211, u212, u213, u214, u215, u216, u217, u218, u219, u220, u221, u222, u223, u224, u225, u226, u227, u228, u229, u230, u231, u232, u233, u234, u235, u236, u237, u238, u239, u240, u241, u242, u243, u244, u245, u246, u247, u248, u249, u250, u251, u252, u253, u254, u255, u256, u257, u258, u259, u260, u261, u262, u263, u264, u265, u266, u267, u268, u269, u270, u271, u272, u273, u274, u275, u276, u277, u278, u279, u280, u281, u282, u283, u284, u285, u286, u287, u288, u289, u290, u291, u292, u293, u294, u295, u296, u297, u298, u299, u300, u301, u302, u303, u304, u305, u306, u307, u308, u309, u310, u311, u312, u313, u314, u315, u316, u317, u318, u319, u320, u321, u322, u323, u324, u325, u326, u327, u328, u329, u330, u331, u332, u333, u334, u335, u336, u337, u338, u339, u340, u341, u342, u343, u344, u345, u346, u347, u348, u349, u350, u351, u352, u353, u354, u355, u356, u357, u358, u359, u360, u361, u362, u363, u364, u365, u366, u367, u368, u369, u370, u371, u372, u373, u374, u375, u376, u377, u378, u379, u380], []⟩ w := by
  conv => arg 2; whnf
  have hs0 : w0.heap.size ≤ w.heap.size := hB.size
  have hok : oddOk (L : Int) rows odd = true := by
    unfold oddOk
    rw [decide_eq_true (show rows.length ≤ 48 by omega), decide_eq_true hlen, List.all_eq_true.2 hon]
    simp [inB]; omega
  have hrl : ∀ r ∈ rows, r.length ≤ L := fun r hr' => on_len (hon r hr')
  have hsm : SmallII rows := by
    have : ∀ (l : List (List Int)), (∀ r ∈ l, r.length ≤ L) → (l.map List.length).sum ≤ L * l.length := by
      intro l
      induction l with
      | nil => intro _; simp
      | cons a t ih =>
        intro h
        have h1 := h a (by simp)
        have h2 := ih fun c hc => h c (by simp [hc])
        rw [List.map_cons, List.sum_cons, List.length_cons, Nat.mul_succ]
        omega
    have h1 := this rows hrl
    have h2 : L * rows.length ≤ 6 * 3 := Nat.mul_le_mul hL6 h3
    exact ⟨by omega, by omega⟩
  have kL : I64 (L : Int) := by constructor <;> omega
  have HB := Lib.hid hB
  have HR := Lib.hid hr
  have HO := Lib.hid ho
  have HS := Lib.hid hsm
  have HOK := Lib.hid hok
  have HLN := Lib.hid hlen
  have HON := Lib.hid hon
  obtain ⟨rva, rvc, rvV, rfl, _, _, _, _⟩ := hr.out
  obtain ⟨ova, ovc, rfl, _, _, _⟩ := ho.out
  have hol : odd.length ≤ 1048576 := by omega
  clear h0 h1 hB hr ho hsm hok hlen hon hrl
  go_wp2_with fail
  refine (implOddModel_any w (L : Int) _ rows _ odd kL HR.out (Nat.le_refl _) HS.out HO.out (Nat.le_refl _) hol).mono ?_
  rintro e w2 ⟨r1, rfl, ho1, hb1⟩
  have HB1 := Lib.hid (HB.out.trans (hb1.mono hs0))
  have hz1 : w.heap.size ≤ w2.heap.size := hb1.size
  have HR1 := Lib.hid (HR.out.below hb1 (Nat.le_refl _))
  have HO1 := Lib.hid (HO.out.below hb1 (Nat.le_refl _))
  have HP1 := Lib.hid ho1
  clear hb1 ho1
  go_wp2_with fail
  conv => arg 2; whnf
  go_wp2_with fail
  refine (specOddModel_any w2 (L : Int) _ rows _ odd kL HR1.out hz1 HS.out HO1.out hz1 hol).mono ?_
  rintro e w3 ⟨r2, rfl, ho2, hb2⟩
  have HB2 := Lib.hid (HB1.out.trans (hb2.mono HB1.out.size))
  have hz2 := hb2.size
  have HR2 := Lib.hid (HR1.out.below hb2 hz1)
  have HO2 := Lib.hid (HO1.out.below hb2 hz1)
  have HP2 := Lib.hid (HP1.out.below hb2 (Nat.le_refl _))
  clear hb2 ho2
  cases ht : (oddModel (L : Int) rows odd).2
  · go_wp2_with fail
    go_ret
    exact ⟨rfl, HB2.out⟩
  · obtain ⟨n, hn1, hn2⟩ := odd_vals HOK.out ht
    have HP3 : Hid (OwnB w3 w.heap.size w2.heap.size r1 (valuesN L n)) := by rw [← hn1]; exact HP2.out
    have HN2 := Lib.hid hn2
    obtain ⟨vs, hvs⟩ : ∃ vs, vs = valuesN L n := ⟨_, rfl⟩
    have hvl : vs.length = L := by rw [hvs]; exact valuesN_len L n
    rw [← hvs] at HP3 HN2
    obtain ⟨pa, pc, hpe⟩ := ownB_shape HP3.out
    rw [hvl] at hpe
    subst hpe
    have HVL := Lib.hid hvl
    clear hn1 hn2 hvs ht HP1 HP2 hvl
    go_wp2_with fail
    go_loopw [349] (fun kv wr => ∃ k : Nat, k ≤ rows.length ∧ kv = .int .i64 k ∧ w3 = wr) (fun kv _ => rows.length - (intOf kv).toNat)
    case atStart => exact ⟨0, Nat.zero_le _, rfl, rfl⟩
    case round =>
      obtain ⟨k, hk, rfl, rfl⟩ := hrel
      by_cases hlt : k < rows.length
      · obtain ⟨ra, rc, V, re, _, _, hV, hd⟩ := HR2.out.out
        obtain ⟨oa, oc, oe, _, _, hdo⟩ := HO2.out.out
        injection re with x1 x2 x3
        subst x1 x3
        injection oe with y1 y2 y3
        subst y1 y3
        rcases hd with hd | ⟨b, off, rfl, _, _, _, hcell⟩
        · rw [hd] at hlt; simp at hlt
        have hlt2 : k < odd.length := by rw [HLN.out]; exact hlt
        rcases hdo with hdo | ⟨bo, oo, rfl, _, _, _, hocell⟩
        · rw [hdo] at hlt2; simp at hlt2
        have hck := hcell k hlt
        have gck := hocell k hlt2
        have hRow := hV k hlt
        have hev := HN2.out k hlt
        have hrin := on_all (HON.out _ (List.getElem_mem hlt))
        have hrl := on_len (HON.out _ (List.getElem_mem hlt))
        obtain ⟨row, hrow⟩ : ∃ row, row = rows[k] := ⟨_, rfl⟩
        rw [← hrow] at hRow hev hrin hrl
        obtain ⟨o, ho⟩ : ∃ o, o = odd.getD k false := ⟨_, rfl⟩
        rw [← ho] at gck hev
        obtain ⟨rwa, rwc, hve, _, _, hdr⟩ := hRow.out
        rw [hve] at hck
        have HEV := Lib.hid hev
        have HIN := Lib.hid hrin
        have HDR := Lib.hid hdr
        clear hcell hocell hRow hev hrow ho hve hV hrin hdr x2 y2
        go_wp2_with fail
        go_loopw [54, 357] (fun ev jv wr => ∃ j : Nat, j ≤ row.length ∧ jv = .int .i64 j ∧ ev = .bool (evenGo vs true (row.take j)) ∧ w3 = wr) (fun _ jv _ => row.length - (intOf jv).toNat)
        case atStart => exact ⟨0, Nat.zero_le _, rfl, rfl, rfl⟩
        case round =>
          obtain ⟨j, hj, rfl, rfl, rfl⟩ := hrel
          by_cases hjl : j < row.length
          · rcases HDR.out with hdr | ⟨b2, o2, rfl, _, _, _, hrcell⟩
            · rw [hdr] at hjl; simp at hjl
            have hrk := hrcell j hjl
            have hx := HIN.out _ (List.getElem_mem hjl)
            have het := evenGo_take (vs := vs) hjl
            rw [List.getD, List.getElem?_eq_getElem hjl, Option.getD_some] at hrk
            obtain ⟨x, hxe⟩ : ∃ x, x = row[j] := ⟨_, rfl⟩
            rw [← hxe] at hrk hx het
            obtain ⟨xn, rfl⟩ : ∃ xn : Nat, x = (xn : Int) + 1 := ⟨(x - 1).toNat, by omega⟩
            have hxl : xn < vs.length := by rw [HVL.out]; omega
            rcases HP3.out.rd.out with ⟨a4, c4, ee4, _, _, hd4⟩
            rw [HVL.out] at ee4
            injection ee4 with g1 g2 g3
            subst g1 g3
            rcases hd4 with hd4 | ⟨b4, o4, rfl, _, _, _, hcell4⟩
            · rw [hd4] at hxl; simp at hxl
            have hvk := hcell4 xn hxl
            have hxL : xn < L := by rw [← HVL.out]; exact hxl
            rw [show ((xn : Int) + 1).toNat - 1 = xn by omega] at het
            obtain ⟨y, hy⟩ : ∃ y, y = vs.getD xn false := ⟨_, rfl⟩
            rw [← hy] at hvk het
            obtain ⟨ev, hev⟩ : ∃ ev, ev = evenGo vs true (row.take j) := ⟨_, rfl⟩
            rw [← hev] at het
            rw [← hev]
            have HET := Lib.hid het
            clear hrcell hcell4 hy hev het hxe hxl g2 hx
            cases y
            · go_wp2
              go_roundw
              case rel => exact ⟨j + 1, by omega, by go_num, by rw [HET.out]; rfl, trivial⟩
              case measure => simp [intOf]; omega
            · go_wp2
              go_roundw
              case rel => exact ⟨j + 1, by omega, by go_num, by rw [HET.out]; rfl, trivial⟩
              case measure => simp [intOf]; omega
          · obtain rfl : j = row.length := by omega
            rw [List.take_length, HEV.out]
            go_wp2
            go_roundw
            case rel => exact ⟨k + 1, by omega, by go_num, trivial⟩
            case measure => simp [intOf]; omega
      · obtain rfl : k = rows.length := by omega
        go_wp2
        go_ret
        exact ⟨rfl, HB2.out⟩
/-- whether the letter x is in the k-th row -/
def rowT (z0 : List Int) (k x : Nat) : Bool := decide (atF z0 ((4 * k + x : Nat) : Int) 2 = 0)
def rowsTo (z0 : List Int) (L k : Nat) : List (List Int) := (List.range k).map fun i => chosen (rowT z0 i) L
def oddTo (z1 : List Int) (k : Nat) : List Bool := (List.range k).map fun i => decide (atF z1 ((11 + i : Nat) : Int) 2 = 0)
theorem rowsTo_len (z0 : List Int) (L k : Nat) : (rowsTo z0 L k).length = k := by simp [rowsTo]
theorem oddTo_len (z1 : List Int) (k : Nat) : (oddTo z1 k).length = k := by simp [oddTo]
theorem rowsTo_succ (z0 : List Int) (L k : Nat) : rowsTo z0 L (k + 1) = rowsTo z0 L k ++ [chosen (rowT z0 k) L] := by simp [rowsTo, List.range_succ]
theorem oddTo_succ (z1 : List Int) (k : Nat) : oddTo z1 (k + 1) = oddTo z1 k ++ [decide (atF z1 ((11 + k : Nat) : Int) 2 = 0)] := by simp [oddTo, List.range_succ]
theorem rowsTo_small (z0 : List Int) (L k : Nat) (hL : L ≤ 6) : ((rowsTo z0 L k).map List.length).sum ≤ 6 * k := by
  induction k with
  | zero => simp [rowsTo]
  | succ k ih =>
    rw [rowsTo_succ, List.map_append, List.sum_append]
    have := chosen_len (rowT z0 k) L
    simp only [List.map_cons, List.map_nil, List.sum_cons, List.sum_nil]
    omega
theorem rowsTo_on (z0 : List Int) (L k : Nat) : ∀ r ∈ rowsTo z0 L k, onGo (L : Int) 0 r = true := by
  intro r hr
  unfold rowsTo at hr
  rw [List.mem_map] at hr
  obtain ⟨i, _, rfl⟩ := hr
  exact chosen_on _ L L (Nat.le_refl _)
set_option maxHeartbeats 4000000 in
set_option maxRecDepth 100000 in
theorem turns4 (w0 w : World) {u2 u3 u4 u5 u6 u7 u8 u9 u10 u11 u12 u13 u14 u15 u16 u17 u18 u19 u20 u21 u22 u23 u24 u25 u26 u27 u28 u29 u30 u31 u32 u33 u34 u36 u37 u38 u39 u40 u41 u42 u43 u44 u45 u46 u47 u48 u49 u50 u51 u52 u53 u54 u55 u56 u57 u58 u59 u60 u61 u62 u63 u64 u65 u66 u67 u68 u69 u70 u71 u72 u73 u74 u75 u76 u77 u78 u79 u80 u81 u82 u83 u84 u85 u86 u87 u88 u89 u90 u91 u92 u93 u94 u95 u96 u97 u98 u99 u100 u101 u102 u103 u104 u105 u106 u107 u108 u109 u110 u111 u112 u113 u114 u115 u116 u117 u118 u119 u120 u121 u122 u123 u124 u125 u126 u127 u128 u129 u130 u131 u132 u133 u134 u135 u136 u137 u138 u139 u140 u141 u142 u143 u144 u145 u146 u147 u148 u149 u150 u151 u152 u153 u154 u155 u156 u157 u158 u159 u160 u161 u162 u163 u164 u165 u166 u167 u168 u169 u170 u171 u172 u173 u174 u175 u176 u177 u178 u179 u180 u181 u182 u183 u184 u185 u186 u187 u188 u189 u190 u191 u192 u193 u194 u195 u196 u197 u198 u199 u200 u201 u202 u203 u204 u205 u206 u207 u208 u209 u210 u211 u212 u213 u214 u215 u216 u217 u218 u219 u220 u221 u222 u223 u224 u225 u226 u227 u228 u229 u230 u231 u232 u233 u234 u235 u236 u237 u238 u239 u240 u241 u242 u243 u244 u245 u246 u247 u248 u249 u250 u251 u252 u253 u254 u255 u256 u257 u258 u259 u260 u261 u262 u263 u264 u265 u266 u267 u268 u269 u270 u271 u272 u273 u274 u275 u276 u277 u278 u279 u280 u281 u282 u283 u284 u285 u286 u287 u288 u289 u290 u291 u292 u293 u294 u295 u296 u297 u298 u299 u300 u301 u302 u303 u304 u305 u306 u307 u308 u309 u310 u311 u312 u313 u314 u315 u316 u317 u318 u319 u320 u321 u322 u323 u324 u325 u326 u327 u328 u329 u330 u331 u332 u333 u334 u335 u336 u337 u338 u339 u340 u341 u342 u343 u344 u345 u346 u347 u348 u349 u350 u351 u352 u353 u354 u355 u356 u357 u358 u359 u360 u361 u362 u363 u364 u365 u366 u367 u368 u369 u370 u371 u372 u373 u374 u375 u376 u377 u378 u379 u380 : Value} {v0 v1 : Value} {z0 z1 : List Int} (hB : Below w0.heap.size w0 w) (h0 : Byts w0 0 w0.heap.size v0 z0) (h1 : Byts w0 0 w0.heap.size v1 z1) (L : Nat) (hL1 : 1 ≤ L) (hL6 : L ≤ 6) :
    Code.wp Try.prog (hdC (tlC 30 bodyOf)) (Exit.then (Code.wp Try.prog (tlC 31 bodyOf) (bodyPost Try.prog Try.f5 fun e w' => e = .returned (.bool true) ∧ Below w0.heap.size w0 w')) (bodyPost Try.prog Try.f5 fun e w' => e = .returned (.bool true) ∧ Below w0.heap.size w0 w')) ⟨#[v0, v1, u2, u3, u4, u5, u6, u7, u8, u9, u10, u11, u12, u13, u14, u15, u16, u17, u18, u19, u20, u21, u22, u23, u24, u25, u26, u27, u28, u29, u30, u31, u32, u33, u34, (.int .i64 (L : Int)), u36, u37, u38, u39, u40, u41, u42, u43, u44, u45, u46, u47, u48, u49, u50, u51, u52, u53, u54, u55, u56, u57, u58, u59, u60, u61, u62, u63, u64, u65, u66, u67, u68, u69, u70, u71, u72, u73, u74, u75, u76, u77, u78, u79, u80, u81, u82, u83, u84, u85, u86, u87, u88, u89, u90, u91, u92, u93, u94, u95, u96, u97, u98, u99, u100, u101, u102, u103, u104, u105, u106, u107, u108, u109, u110, u111, u112, u113, u114, u115, u116, u117, u118, u119, u120, u121, u122, u123, u124, u125, u126, u127, u128, u129, u130, u131, u132, u133, u134, u135, u136, u137, u138, u139, u140, u141, u142, u143, u144, u145, u146, u147, u148, u149, u150, u151, u152, u153, u154, u155, u156, u157, u158, u159, u160, u161, u162, u163, u164, u165, u166, u167, u168, u169, u170, u171, u172, u173, u174, u175, u176, u177, u178, u179, u180, u181, u182, u183, u184, u185, u186, u187, u188, u189, u190, u191, u192, u193, u194, u195, u196, u197, u198, u199, u200, u201, u202, u203, u204, u205, u206, u207, u208, u209, u210, u211, u212, u213, u214, u215, u216, u217, u218, u219, u220, u221, u222, u223, u224, u225, u226, u227, u228, u229, u230, u231, u232, u233, u234, u235, u236, u237, u238, u239, u240, u241, u242, u243, u244, u245, u246, u247, u248, u249, u250, u251, u252, u253, u254, u255, u256, u257, u258, u259, u260, u261, u262, u263, u264, u265, u266, u267, u268, u269, u270, u271, u272, u273, u274, u275, u276, u277, u278, u279, u280, u281, u282, u283, u284, u285, u286, u287, u288, u289, u290, u291, u292, u293, u294, u295, u296, u297, u298, u299, u300, u301, u302, u303, u304, u305, u306, u307, u308, u309, u310, u311, u312, u313, u314, u315, u316, u317, u318, u319, u320, u321, u322, u323, u324, u325, u326, u327, u328, u329, u330, u331, u332, u333, u334, u335, u336, u337, u338, u339, u340, u341, u342, u343, u344, u345, u346, u347, u348, u349, u350, u351, u352, u353, u354, u355, u356, u357, u358, u359, u360, u361, u362, u363, u364, u365, u366, u367, u368, u369, u370, u371, u372, u373, u374, u375, u376, u377, u378, u379, u380], []⟩ w := by
  conv => arg 2; whnf
  have hs0 : w0.heap.size ≤ w.heap.size := hB.size
  have hB0 := Lib.hid hB
  have HY0 := Lib.hid h0
  have HY1 := Lib.hid h1
  have hxR := atF_rng z1 10 4 (by decide)
  obtain ⟨R, hR⟩ : ∃ R : Nat, atF z1 10 4 = (R : Int) := ⟨(atF z1 10 4).toNat, by omega⟩
  rw [hR] at hxR
  have hR3 : R ≤ 3 := by omega
  have HAR : Hid (∀ wx, Below w0.heap.size w0 wx → Calls Try.prog 16 #[v1, .int .i64 10, .int .i64 4] wx fun e w' => e = .returned (.int .i64 (R : Int)) ∧ wx = w') := by
    intro wx hx
    have := b10At_any v1 z1 10 4 wx (h1.below hx (Nat.le_refl _)) (by decide) (by decide) (by decide)
    simp only [show ((10 : Nat) : Int) = 10 from rfl, hR] at this
    exact this
  clear hxR hR
  obtain ⟨W, hW⟩ : ∃ X, X = (w.alloc (.cells #[] 34)).alloc (.cells #[] 4) := ⟨_, rfl⟩
  have hr0 := OwnIIV.nilNew w
  have ho0 := emptySliceB (w.alloc (.cells #[] 34))
  have hsz : (w.alloc (.cells #[] 34)).heap.size = w.heap.size + 1 := by simp
  have hbW : Below w.heap.size w W := by rw [hW]; exact (alloc_below _ _).alloc (by simp) _
  have hWz : W.heap.size = w.heap.size + 2 := by rw [hW]; simp
  have HR0 : Hid (OwnIIV W w.heap.size W.heap.size (.slice (some ⟨w.heap.size, 0, none⟩) 0 0) [] []) := by
    rw [hW]
    exact (hr0.below (B := w.heap.size + 1) ((Below.refl _ _).alloc (by rw [hsz]; exact Nat.le_refl _) _) (Nat.le_refl _)).mono (Nat.le_refl _) (by simp) (Nat.le_refl _)
  have HO0 : Hid (OwnB W w.heap.size W.heap.size (.slice (some ⟨w.heap.size + 1, 0, none⟩) 0 0) []) := by
    rw [hW]; rw [hsz] at ho0; exact ho0.mono (by omega) (by simp) (Nat.le_refl _)
  have HBS0 : Hid (Beside (.slice (some ⟨w.heap.size + 1, 0, none⟩) 0 0) (.slice (some ⟨w.heap.size, 0, none⟩) 0 0) [] []) := by
    rintro k (hk | ⟨i, hi, _⟩) hu
    · simp [Value.ownBlock] at hk hu; omega
    · simp at hi
  have HBW := Lib.hid hbW
  clear hr0 ho0 hbW hsz h0 h1 hB
  have hWz' := Lib.hid hWz
  clear hWz
  go_wp2_with fail
  conv => arg 2; whnf
  go_wp2_with fail
  rw [← hW]
  clear hW
  go_loopw [44, 45, 46] (fun rv ov kv wr => ∃ (k : Nat) (vs : List Value), k ≤ R ∧ kv = .int .i64 k ∧ OwnIIV wr w.heap.size wr.heap.size rv (rowsTo z0 L k) vs ∧ OwnB wr w.heap.size wr.heap.size ov (oddTo z1 k) ∧ Hid (Beside ov rv (rowsTo z0 L k) vs) ∧ Below w.heap.size w wr) (fun _ _ kv _ => R - (intOf kv).toNat)
  case atStart => exact ⟨0, [], Nat.zero_le _, rfl, HR0.out, HO0.out, HBS0, HBW.out⟩
  case round =>
    obtain ⟨rv, hrv⟩ : ∃ v, v = u44 := ⟨_, rfl⟩
    obtain ⟨ov, hov⟩ : ∃ v, v = u45 := ⟨_, rfl⟩
    obtain ⟨wo, hwo⟩ : ∃ v, v = wr := ⟨_, rfl⟩
    rw [← hrv, ← hov, ← hwo] at hrel
    rw [← hrv, ← hov, ← hwo]
    clear hrv hov hwo
    obtain ⟨k, vs, hk, rfl, hr, ho, HBS, hb⟩ := hrel
    have HR := Lib.hid hr
    have HO := Lib.hid ho
    have HB := Lib.hid hb
    have hbo : Below w0.heap.size w0 wo := hB0.out.trans (hb.mono hs0)
    have HBO := Lib.hid hbo
    have hso : w.heap.size ≤ wo.heap.size := hb.size
    have HC := Lib.hid (HAR.out wo hbo)
    clear hr ho hb hbo
    by_cases hlt : k < R
    · have he0 := emptySlice wo
      obtain ⟨W2, hW2⟩ : ∃ X, X = wo.alloc (.cells #[] 2) := ⟨_, rfl⟩
      have HE0 : Hid (OwnI W2 wo.heap.size W2.heap.size (.slice (some ⟨wo.heap.size, 0, none⟩) 0 0) []) := by rw [hW2]; exact he0.mono (Nat.le_refl _) (by simp) (Nat.le_refl _)
      have HBW2 : Hid (Below wo.heap.size wo W2) := by rw [hW2]; exact alloc_below _ _
      clear he0
      go_wp2_with fail
      refine HC.out.mono ?_
      rintro e w' ⟨rfl, rfl⟩
      go_wp2_with fail
      rw [← hW2]
      clear hW2
      go_loopw [47, 48] (fun av xv wr => ∃ j : Nat, j ≤ L ∧ xv = .int .i64 ((j + 1 : Nat)) ∧ OwnI wr wo.heap.size wr.heap.size av (chosen (rowT z0 k) j) ∧ Below wo.heap.size wo wr) (fun _ xv _ => L + 1 - (intOf xv).toNat)
      case atStart => exact ⟨0, Nat.zero_le _, rfl, HE0.out, HBW2.out⟩
      case round =>
        obtain ⟨av, hav⟩ : ∃ v, v = u47 := ⟨_, rfl⟩
        rw [← hav] at hrel
        rw [← hav]
        clear hav
        obtain ⟨j, hj, rfl, hoa, hbr⟩ := hrel
        have HA := Lib.hid hoa
        have HBR := Lib.hid hbr
        have hsr : wo.heap.size ≤ wr.heap.size := hbr.size
        have hla := chosen_len (rowT z0 k) j
        clear hoa hbr
        by_cases hjl : j < L
        · have hidx : 4 * (k : Int) + ((j + 1 : Nat) : Int) = ((4 * k + (j + 1) : Nat) : Int) := by omega
          have HAT := Lib.hid (b10At_any v0 z0 (4 * k + (j + 1)) 2 wr (HY0.out.below (HBO.out.trans (HBR.out.mono HBO.out.size)) (Nat.le_refl _)) (by omega) (by decide) (by decide))
          obtain ⟨x, hx⟩ : ∃ x, x = atF z0 ((4 * k + (j + 1) : Nat) : Int) 2 := ⟨_, rfl⟩
          obtain ⟨ix, hix⟩ : ∃ ix, ix = 4 * k + (j + 1) := ⟨_, rfl⟩
          have hcs := chosen_succ (rowT z0 k) j
          rw [show rowT z0 k (j + 1) = decide (x = 0) by rw [hx]; rfl] at hcs
          rw [← hx, ← hix] at HAT
          have hi1 : IntKind.i64.wrap (4 * (k : Int)) = 4 * (k : Int) := IntWalk.i64_in _ (by omega)
          have hi2 : IntKind.i64.wrap (4 * (k : Int) + ((j : Int) + 1)) = (ix : Int) := by rw [IntWalk.i64_in _ (by omega)]; omega
          have hi3 : IntKind.i64.wrap (4 * (k : Int) + ((j + 1 : Nat) : Int)) = (ix : Int) := by rw [IntWalk.i64_in _ (by omega)]; omega
          clear hx hix hidx
          by_cases hx0 : x = 0
          · subst hx0
            have HCS : Hid (chosen (rowT z0 k) (j + 1) = chosen (rowT z0 k) j ++ [((j + 1 : Nat) : Int)]) := by rw [Hid, hcs]; rfl
            clear hcs
            go_wp2_with fail
            refine HAT.out.mono ?_
            rintro e w' ⟨rfl, rfl⟩
            go_wp2_with (at_builtin; refine wpList_app1 rfl _ _ rfl _ (chosen (rowT z0 k) j) rfl ((j + 1 : Nat) : Int) _ HA.out rfl (by constructor <;> omega) (by omega) hsr ?_)
            intro v6 w6 ho6 hsm6 hz6 hbk6
            have HA6 := Lib.hid ho6
            have HB6 := Lib.hid (HBR.out.trans (hsm6.below (Nat.le_refl _) hsr))
            clear ho6 hsm6 hz6 hbk6
            go_wp2
            go_roundw
            case rel => exact ⟨j + 1, by omega, by go_num, by rw [HCS.out]; exact HA6.out, HB6.out⟩
            case measure => simp [intOf]; omega
          · have HCS : Hid (chosen (rowT z0 k) (j + 1) = chosen (rowT z0 k) j) := by rw [Hid, hcs, if_neg (by simp [hx0])]
            clear hcs
            go_wp2_with fail
            refine HAT.out.mono ?_
            rintro e w' ⟨rfl, rfl⟩
            go_wp2_with fail
            go_roundw
            case rel => exact ⟨j + 1, by omega, by go_num, by rw [HCS.out]; exact HA.out, HBR.out⟩
            case measure => simp [intOf]; omega
        · obtain rfl : L = j := by omega
          clear hla
          have HR3 := Lib.hid (HR.out.below HBR.out (Nat.le_refl _))
          have HO3 := Lib.hid (HO.out.below HBR.out (Nat.le_refl _))
          have hrl := rowsTo_small z0 L k hL6
          have hrn : (rowsTo z0 L k).length = k := rowsTo_len z0 L k
          have HRS : Hid (rowsTo z0 L (k + 1) = rowsTo z0 L k ++ [chosen (rowT z0 k) L]) := rowsTo_succ z0 L k
          have HOS : Hid (oddTo z1 (k + 1) = oddTo z1 k ++ [decide (atF z1 ((11 + k : Nat) : Int) 2 = 0)]) := oddTo_succ z1 k
          have hon : (oddTo z1 k).length = k := oddTo_len z1 k
          have hsum : ((rowsTo z0 L k ++ [chosen (rowT z0 k) L]).map List.length).sum ≤ 1099511627776 := by
            have := rowsTo_small z0 L (k + 1) hL6
            rw [HRS.out] at this
            omega
          have HLR : Hid ((rowsTo z0 L k).length + 1 ≤ 1048576) := by rw [Hid, hrn]; omega
          have HLO : Hid ((oddTo z1 k).length + 1 ≤ 1099511627776) := by rw [Hid, hon]; omega
          have HSU := Lib.hid hsum
          have hsrw : w.heap.size ≤ wr.heap.size := by omega
          obtain ⟨aa, ac, hae⟩ := HA.out.shape2
          obtain ⟨la, hla⟩ : ∃ n, n = (chosen (rowT z0 k) L).length := ⟨_, rfl⟩
          rw [← hla] at hae
          subst hae
          clear hrl hrn hon hsum hla
          go_wp2_with (at_builtin; refine wpList_appIIV rfl _ _ rfl _ (rowsTo z0 L k) rfl _ (chosen (rowT z0 k) L) _ HR3.out HA.out (Nat.le_refl _) hso rfl HLR.out HSU.out hsrw ?_)
          intro v6 w6 ho6 hk6 hsm6 hz6 hbk6
          have HR6 : Hid (OwnIIV w6 w.heap.size w6.heap.size v6 (rowsTo z0 L (k + 1)) (vs ++ [.slice aa la ac])) := by rw [Hid, HRS.out]; exact ho6
          have hov := HO3.out.beside (u := rv) (by omega) (by omega) hk6 (fun p hp => fun hq => HBS.out p (.inl hq) hp)
          have HO6 := Lib.hid hov
          have HBS6 : Hid (Beside ov v6 (rowsTo z0 L (k + 1)) (vs ++ [.slice aa la ac])) := by
            rw [Hid, HRS.out]
            exact Beside.row HBS.out HR.out.vlen (fun p hp => HO3.out.own.blk p hp) (fun p hp => (HA.out.own.row.lt p hp).1) hsr hbk6
          have HB6 := Lib.hid (((HB.out.trans (HBR.out.mono hso))).trans (hsm6.below (Nat.le_refl _) hsrw))
          have hs6 : w.heap.size ≤ w6.heap.size := by omega
          have HAT := Lib.hid (b10At_any v1 z1 (11 + k) 2 w6 (HY1.out.below (hB0.out.trans (HB6.out.mono hs0)) (Nat.le_refl _)) (by omega) (by decide) (by decide))
          obtain ⟨x, hx⟩ : ∃ x, x = atF z1 ((11 + k : Nat) : Int) 2 := ⟨_, rfl⟩
          obtain ⟨ix, hix⟩ : ∃ ix, ix = 11 + k := ⟨_, rfl⟩
          rw [← hx] at HOS
          rw [← hx, ← hix] at HAT
          have hi1 : IntKind.i64.wrap (11 + (k : Int)) = (ix : Int) := by rw [IntWalk.i64_in _ (by omega)]; omega
          have hxd : (x == 0) = decide (x = 0) := rfl
          have HDX : Hid ((x == 0) = decide (x = 0)) := hxd
          clear ho6 hk6 hsm6 hz6 hbk6 hx hix hxd hov
          go_wp2_with fail
          refine HAT.out.mono ?_
          rintro e w' ⟨rfl, rfl⟩
          go_wp2_with (at_builtin; refine wpList_app1BK rfl _ _ rfl _ (oddTo z1 k) rfl (decide (x = 0)) _ HO6.out rfl HLO.out hs6 ?_)
          intro v7 w7 ho7 hk7 hsm7 hz7 hbk7
          have HO7 : Hid (OwnB w7 w.heap.size w7.heap.size v7 (oddTo z1 (k + 1))) := by rw [Hid, HOS.out]; exact ho7
          have hz67 : w6.heap.size ≤ w7.heap.size := by omega
          have HR7 : Hid (OwnIIV w7 w.heap.size w7.heap.size v6 (rowsTo z0 L (k + 1)) (vs ++ [.slice aa la ac])) :=
            (HR6.out.stay hz67 (fun q hq => hk7 q (HR6.out.lt q hq) (HBS6.out q hq))).mono (Nat.le_refl _) hz67 (Nat.le_refl _)
          have HBS7 : Hid (Beside v7 v6 (rowsTo z0 L (k + 1)) (vs ++ [.slice aa la ac])) := Beside.grow HBS6.out HR6.out.lt hbk7
          have HB7 := Lib.hid (HB6.out.trans (hsm7.below (Nat.le_refl _) hs6))
          clear ho7 hk7 hsm7 hz7 hbk7 hz67
          go_wp2
          go_roundw
          case rel => exact ⟨k + 1, vs ++ [.slice aa la ac], by omega, by go_num, HR7.out, HO7.out, HBS7, HB7.out⟩
          case measure => simp [intOf]; omega
    · obtain rfl : R = k := by omega
      go_wp2_with fail
      refine HC.out.mono ?_
      rintro e w' ⟨rfl, rfl⟩
      go_upto_region 64 with (fail)
      exact join_part (by assumption) (turns5 w0 _ HBO.out HY0.out HY1.out L hL1 hL6 (HR.out.toII.rd.mono (Nat.zero_le _) (Nat.le_refl _) (Nat.le_refl _)) (HO.out.rd.mono (Nat.zero_le _) (Nat.le_refl _) (Nat.le_refl _)) (by rw [oddTo_len, rowsTo_len]) (by rw [rowsTo_len]; omega) (rowsTo_on z0 L R))
set_option maxHeartbeats 4000000 in
set_option maxRecDepth 100000 in
theorem turns3 (w0 w : World) {u2 u3 u4 u5 u6 u7 u8 u9 u10 u11 u12 u13 u14 u15 u16 u17 u18 u19 u20 u21 u22 u23 u24 u25 u26 u27 u28 u29 u30 u31 u32 u33 u34 u35 u36 u37 u38 u39 u40 u41 u42 u43 u44 u45 u46 u47 u48 u49 u50 u51 u52 u53 u54 u55 u56 u57 u58 u59 u60 u61 u62 u63 u64 u65 u66 u67 u68 u69 u70 u71 u72 u73 u74 u75 u76 u77 u78 u79 u80 u81 u82 u83 u84 u85 u86 u87 u88 u89 u90 u91 u92 u93 u94 u95 u96 u97 u98 u99 u100 u101 u102 u103 u104 u105 u106 u107 u108 u109 u110 u111 u112 u113 u114 u115 u116 u117 u118 u119 u120 u121 u122 u123 u124 u125 u126 u127 u128 u129 u130 u131 u132 u133 u134 u135 u136 u137 u138 u139 u140 u141 u142 u143 u144 u145 u146 u147 u148 u149 u150 u151 u152 u153 u154 u155 u156 u157 u158 u159 u160 u161 u162 u163 u164 u165 u166 u167 u168 u169 u170 u171 u172 u173 u174 u175 u176 u177 u178 u179 u180 u181 u182 u183 u184 u185 u186 u187 u188 u189 u190 u191 u192 u193 u194 u195 u196 u197 u198 u199 u200 u201 u202 u203 u204 u205 u206 u207 u208 u209 u210 u211 u212 u213 u214 u215 u216 u217 u218 u219 u220 u221 u222 u223 u224 u225 u226 u227 u228 u229 u230 u231 u232 u233 u234 u235 u236 u237 u238 u239 u240 u241 u242 u243 u244 u245 u246 u247 u248 u249 u250 u251 u252 u253 u254 u255 u256 u257 u258 u259 u260 u261 u262 u263 u264 u265 u266 u267 u268 u269 u270 u271 u272 u273 u274 u275 u276 u277 u278 u279 u280 u281 u282 u283 u284 u285 u286 u287 u288 u289 u290 u291 u292 u293 u294 u295 u296 u297 u298 u299 u300 u301 u302 u303 u304 u305 u306 u307 u308 u309 u310 u311 u312 u313 u314 u315 u316 u317 u318 u319 u320 u321 u322 u323 u324 u325 u326 u327 u328 u329 u330 u331 u332 u333 u334 u335 u336 u337 u338 u339 u340 u341 u342 u343 u344 u345 u346 u347 u348 u349 u350 u351 u352 u353 u354 u355 u356 u357 u358 u359 u360 u361 u362 u363 u364 u365 u366 u367 u368 u369 u370 u371 u372 u373 u374 u375 u376 u377 u378 u379 u380 : Value} {v0 v1 : Value} {z0 z1 : List Int} (hB : Below w0.heap.size w0 w) (h0 : Byts w0 0 w0.heap.size v0 z0) (h1 : Byts w0 0 w0.heap.size v1 z1) :
    Code.wp Try.prog (hdC (tlC 22 bodyOf)) (Exit.then (Code.wp Try.prog (tlC 23 bodyOf) (bodyPost Try.prog Try.f5 fun e w' => e = .returned (.bool true) ∧ Below w0.heap.size w0 w')) (bodyPost Try.prog Try.f5 fun e w' => e = .returned (.bool true) ∧ Below w0.heap.size w0 w')) ⟨#[v0, v1, u2, u3, u4, u5, u6, u7, u8, u9, u10, u11, u12, u13, u14, u15, u16, u17, u18, u19, u20, u21, u22, u23, u24, u25, u26, u27, u28, u29, u30, u31, u32, u33, u34, u35, u36, u37, u38, u39, u40, u41, u42, u43, u44, u45, u46, u47, u48, u49, u50, u51, u52, u53, u54, u55, u56, u57, u58, u59, u60, u61, u62, u63, u64, u65, u66, u67, u68, u69, u70, u71, u72, u73, u74, u75, u76, u77, u78, u79, u80, u81, u82, u83, u84, u85, u86, u87, u88, u89, u90, u91, u92, u93, u94, u95, u96, u97, u98, u99, u100, u101, u102, u103, u104, u105, u106, u107, u108, u109, u110, u111, u112, u113, u114, u115, u116, u117, u118, u119, u120, u121, u122, u123, u124, u125, u126, u127, u128, u129, u130, u131, u132, u133, u134, u135, u136, u137, u138, u139, u140, u141, u142, u143, u144, u145, u146, u147, u148, u149, u150, u151, u152, u153, u154, u155, u156, u157, u158, u159, u160, u161, u162, u163, u164, u165, u166, u167, u168, u169, u170, u171, u172, u173, u174, u175, u176, u177, u178, u179, u180, u181, u182, u183, u184, u185, u186, u187, u188, u189, u190, u191, u192, u193, u194, u195, u196, u197, u198, u199, u200, u201, u202, u203, u204, u205, u206, u207, u208, u209, u210, u211, u212, u213, u214, u215, u216, u217, u218, u219, u220, u221, u222, u223, u224, u225, u226, u227, u228, u229, u230, u231, u232, u233, u234, u235, u236, u237, u238, u239, u240, u241, u242, u243, u244, u245, u246, u247, u248, u249, u250, u251, u252, u253, u254, u255, u256, u257, u258, u259, u260, u261, u262, u263, u264, u265, u266, u267, u268, u269, u270, u271, u272, u273, u274, u275, u276, u277, u278, u279, u280, u281, u282, u283, u284, u285, u286, u287, u288, u289, u290, u291, u292, u293, u294, u295, u296, u297, u298, u299, u300, u301, u302, u303, u304, u305, u306, u307, u308, u309, u310, u311, u312, u313, u314, u315, u316, u317, u318, u319, u320, u321, u322, u323, u324, u325, u326, u327, u328, u329, u330, u331, u332, u333, u334, u335, u336, u337, u338, u339, u340, u341, u342, u343, u344, u345, u346, u347, u348, u349, u350, u351, u352, u353, u354, u355, u356, u357, u358, u359, u360, u361, u362, u363, u364, u365, u366, u367, u368, u369, u370, u371, u372, u373, u374, u375, u376, u377, u378, u379, u380], []⟩ w := by
  conv => arg 2; whnf
  have hs0 : w0.heap.size ≤ w.heap.size := hB.size
  have HB := Lib.hid hB
  have HY0 := Lib.hid h0
  have HY1 := Lib.hid h1
  have hx8 := atF_rng z1 8 6 (by decide)
  have HA8 := Lib.hid (b10At_any v1 z1 8 6 w (h1.below hB (Nat.le_refl _)) (by decide) (by decide) (by decide))
  obtain ⟨L, hL⟩ : ∃ L : Nat, 1 + atF z1 8 6 = (L : Int) := ⟨(1 + atF z1 8 6).toNat, by omega⟩
  obtain ⟨x, hx⟩ : ∃ x, x = atF z1 8 6 := ⟨_, rfl⟩
  simp only [show ((8 : Nat) : Int) = 8 from rfl, ← hx] at HA8
  rw [← hx] at hL hx8
  have hL1 : 1 ≤ L := by omega
  have hL6 : L ≤ 6 := by omega
  have hwL : IntKind.i64.wrap (1 + x) = (L : Int) := by rw [hL]; exact IntWalk.i64_in _ (by omega)
  have hx9 := atF_rng z1 9 ((L : Int) + 1) (by omega)
  have HA9 := Lib.hid (b10At_any v1 z1 9 ((L : Int) + 1) w (h1.below hB (Nat.le_refl _)) (by decide) (by omega) (by omega))
  obtain ⟨m, hm⟩ : ∃ m : Nat, atF z1 9 ((L : Int) + 1) = (m : Int) := ⟨(atF z1 9 ((L : Int) + 1)).toNat, by omega⟩
  simp only [show ((9 : Nat) : Int) = 9 from rfl, hm] at HA9
  rw [hm] at hx9
  have hmL : m ≤ L := by omega
  obtain ⟨form, ha1, ha2, ha3, ha4⟩ := at_most hL1 hL6 hmL
  have HA1 := Lib.hid ha1
  have HA4 := Lib.hid ha4
  have HA3 := Lib.hid ha3
  have HA2 := Lib.hid ha2
  have HBC := Lib.hid (binC_le L hL6)
  clear h0 h1 hB hm hx9 ha1 ha3 ha4 hx hx8 hL ha2
  go_wp2_with fail
  refine HA8.out.mono ?_
  rintro e w' ⟨rfl, rfl⟩
  go_wp2_with fail
  conv => arg 2; whnf
  go_wp2_with fail
  refine HA9.out.mono ?_
  rintro e w' ⟨rfl, rfl⟩
  go_wp2_with fail
  refine (implAtMostForm_any w (L : Int) (m : Int) (by constructor <;> omega) (by constructor <;> omega)).mono ?_
  rintro e w2 ⟨r, he, hr, hb2⟩
  rw [HA1.out] at he hr
  subst he
  simp only at hr
  obtain ⟨u, rfl, hu⟩ := hr.ex
  obtain ⟨ua, uc, rfl⟩ := hu.shape
  have HF := Lib.hid hr
  have hz2 : w.heap.size ≤ w2.heap.size := hb2.size
  obtain ⟨W, hW⟩ : ∃ X, X = w2.alloc (.cells #[.int .i64 form.letters, .slice ua form.clauses.length uc] 26) := ⟨_, rfl⟩
  obtain ⟨b, hbb⟩ : ∃ b, b = w2.heap.size := ⟨_, rfl⟩
  have hbx : TwoC W b 26 (.int .i64 form.letters) (.slice ua form.clauses.length uc) := by rw [hW, hbb]; exact TwoC.new _ _ _ _
  have hbW : Below w2.heap.size w2 W := by rw [hW]; exact alloc_below _ _
  have HBW := Lib.hid (HB.out.trans ((hb2.mono hs0).trans (hbW.mono (by omega))))
  have HFW := Lib.hid (hr.below hbW (Nat.le_refl _))
  have hzW := hbW.size
  clear hr hu hb2 hbW
  go_wp2_with fail
  rw [← hW, ← hbb]
  clear hW hbb
  have q0 := hbx.c0
  have q1 := hbx.c1
  have HBX := Lib.hid hbx
  clear hbx
  go_wp2_with fail
  refine (specCountModels_any W _ _ HFW.out.rd hzW HA3.out).mono ?_
  rintro e w3 ⟨he, hb3⟩
  rw [HA4.out] at he
  subst he
  have hbl := HBX.out.lt
  have q0 := (HBX.out.below hb3 hbl).c0
  have q1 := (HBX.out.below hb3 hbl).c1
  rw [HA2.out] at q0
  have HB3 := Lib.hid (HBW.out.trans (hb3.mono HBW.out.size))
  clear hb3
  go_wp2_with fail
  go_loopw [41, 42, 43] (fun sv cv kv wr => ∃ k : Nat, k ≤ m + 1 ∧ kv = .int .i64 k ∧ sv = .int .i64 (sumC L k : Nat) ∧ cv = .int .i64 (binC L k : Nat) ∧ wr = w3) (fun _ _ kv _ => m + 1 - (intOf kv).toNat)
  case atStart => exact ⟨0, Nat.zero_le _, rfl, rfl, rfl, rfl⟩
  case round =>
    obtain ⟨k, hk, rfl, rfl, rfl, rfl⟩ := hrel
    have hbc := HBC.out k (by omega)
    by_cases hlt : k ≤ m
    · have hbc2 := HBC.out (k + 1) (by omega)
      have hmul : binC L k * (L - k) ≤ 20 * 6 := Nat.mul_le_mul hbc.1 (by omega)
      obtain ⟨q, hq⟩ : ∃ q, q = binC L k * (L - k) := ⟨_, rfl⟩
      have e1 : ((binC L k : Nat) : Int) * ((L : Int) - (k : Int)) = (q : Int) := by rw [hq, Int.natCast_mul]; congr 1; omega
      have e2 : ((q : Int)).tdiv ((k : Int) + 1) = ((q / (k + 1) : Nat) : Int) := by
        rw [Int.tdiv_eq_ediv_of_nonneg (by omega)]; simp
      have e2' : (q : Int) / ((k : Int) + 1) = ((q / (k + 1) : Nat) : Int) := by simp
      have e3 : binC L (k + 1) = q / (k + 1) := by rw [hq]; rfl
      have e4 : sumC L (k + 1) = sumC L k + binC L k := rfl
      rw [← hq] at hmul
      have hq1 : (k : Int) + 1 ≠ 0 := by omega
      have hq2 : (k : Int) + 1 ≠ -1 := by omega
      have hqd : q / (k + 1) ≤ q := Nat.div_le_self _ _
      have HE3 := Lib.hid e3
      have HE4 := Lib.hid e4
      obtain ⟨bb, hbb⟩ : ∃ bb, bb = binC L k := ⟨_, rfl⟩
      obtain ⟨ss, hss⟩ : ∃ ss, ss = sumC L k := ⟨_, rfl⟩
      obtain ⟨dd, hdd⟩ : ∃ dd, dd = q / (k + 1) := ⟨_, rfl⟩
      rw [← hbb, ← hss] at hbc HE4
      rw [← hbb] at e1
      rw [← hdd] at e2 e2' hqd HE3
      rw [← hbb, ← hss]
      obtain ⟨tt, htt⟩ : ∃ tt, tt = ss + bb := ⟨_, rfl⟩
      have e5 : ((ss : Nat) : Int) + (bb : Int) = (tt : Int) := by omega
      rw [← htt] at HE4
      obtain ⟨hbc1, hbc2'⟩ := hbc
      have htl : tt ≤ 84 := by omega
      clear hbb hss hdd hq e3 e4 hbc2 htt
      go_wp2
      go_roundw
      case rel => exact ⟨k + 1, by omega, by go_num, by rw [HE4.out], by rw [HE3.out], trivial⟩
      case measure => simp [intOf]; omega
    · obtain rfl : k = m + 1 := by omega
      clear hbc
      obtain ⟨ss, hss⟩ : ∃ ss, ss = sumC L (m + 1) := ⟨_, rfl⟩
      rw [← hss]
      clear hss
      go_upto_region 51 with (fail)
      exact join_part (by assumption) (turns4 w0 _ HB3.out HY0.out HY1.out L hL1 hL6)
end Go.Proofs.Ytcpbgjnijhcpkaa
