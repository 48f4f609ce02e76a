/-
  The law FnClauses returns true for all arguments, and writes nothing that was there.
  There are no conditions.
-/
import Derived.Test.YtcpbgjnijhcpkaaFcA
import Derived.Test.YtcpbgjnijhcpkaaClauseR
import Derived.Deep.DeepCutAuto
import Derived.Deep.RegionHeld3
import Derived.Deep.RegionLaw
import Derived.Test.YtcpbgjnijhcpkaaFcB
import Derived.Test.YtcpbgjnijhcpkaaThin
namespace Go.Proofs.Ytcpbgjnijhcpkaa
open Go.ChangeShapes Go.WideShapes Go.ChangeAt Go.RowKit
set_option linter.unusedVariables false
set_option maxRecDepth 100000

def tlC : Nat → Code → Code
  | 0, c => c
  | n + 1, .seq _ b => tlC n b
  | _, c => c
def hdC : Code → Code
  | .seq a _ => a
  | c => c
theorem join_part {P : Program} {x y : Code} {Q : Exit → Act → World → Prop} {a : Act} {w : World} {K : Act → World → Prop} (hK : ∀ a w, Code.wp P y Q a w → K a w)
    (h : Code.wp P x (Exit.then (Code.wp P y Q) Q) a w) : Code.wp P x (Exit.then K Q) a w :=
  Code.wp_mono (fun e a w h => by cases e <;> first | exact hK _ _ h | exact h) h
noncomputable def bodyOf : Code := Try.f6.body.getD .skip
set_option maxHeartbeats 4000000 in
set_option maxRecDepth 100000 in
theorem clauses5 (w0 w : World) {u2 u3 u4 u7 u8 u9 u10 u11 u12 u13 u14 u15 u16 u17 u18 u19 u20 u21 u22 u23 u24 u25 u26 u27 u28 u29 u30 u31 u32 u33 u34 u35 u36 u37 u38 u39 u40 u41 u42 u43 u44 u45 u46 u47 u48 u49 u50 u51 u52 u53 u54 u55 u56 u57 u58 u59 u60 u61 u62 u63 u64 u65 u66 u67 u68 u69 u70 u71 u72 u73 u74 u75 u76 u77 u78 u79 u80 u81 u82 u83 u84 u85 u86 u87 u88 u89 u90 u91 u92 u93 u94 u95 u96 u97 u98 u99 u100 u101 u102 u103 u104 u105 u106 u107 u108 u109 u110 u111 u112 u113 u114 u115 u116 u117 u118 u119 u120 u121 u122 u123 u124 u125 u126 u127 u128 u129 u130 u131 u132 u133 u134 u135 u136 u137 u138 u139 u140 u141 u142 u143 u144 u145 u146 u147 u148 u149 u150 u151 u152 u153 u154 u155 u156 u157 u158 u159 u160 u161 u162 u163 u164 u165 u166 u167 u168 u169 u170 u171 u172 u173 u174 u175 u176 u177 u178 u179 u180 u181 u182 u183 u184 u185 u186 u187 u188 u189 u190 u191 u192 u193 u194 u195 u196 u197 u198 u199 u200 u201 u202 u203 u204 u205 u206 u207 u208 u209 u210 u211 u212 u213 u214 u215 u216 u217 u218 u219 u220 u221 u222 u223 u224 u225 u226 u227 u228 u229 u230 u231 u232 u233 u234 u235 u236 u237 u238 u239 u240 u241 u242 u243 u244 u245 u246 u247 u248 u249 u250 u251 u252 u253 u254 u255 u256 u257 u258 u259 u260 u261 u262 u263 u264 u265 : Value} {v0 v1 : Value} {z0 z1 : List Int} (hB : Below w0.heap.size w0 w) (h0 : Byts w0 0 w0.heap.size v0 z0) (h1 : Byts w0 0 w0.heap.size v1 z1) {b L : Nat} {cs : List (List Int)} {fa : Option Addr} {fc : Nat} (hbx : TwoC w b 26 (.int .i64 (L : Int)) (.slice fa cs.length fc)) (hcs : Intss w 0 w.heap.size (.slice fa cs.length fc) cs) (hval : validForm ⟨(L : Int), cs⟩ = true) (h9 : cs.length ≤ 9) (h3 : ∀ c ∈ cs, c.length ≤ 3) (h5 : L ≤ 5) :
    Code.wp Try.prog (hdC (tlC 24 bodyOf)) (Exit.then (Code.wp Try.prog (tlC 25 bodyOf) (bodyPost Try.prog Try.f6 fun e w' => e = .returned (.bool true) ∧ Below w0.heap.size w0 w')) (bodyPost Try.prog Try.f6 fun e w' => e = .returned (.bool true) ∧ Below w0.heap.size w0 w')) ⟨#[v0, v1, u2, u3, u4, (.pointer (some ⟨b, 0, none⟩)), (.int .i64 ((countN L cs (2 ^ L) : Nat) : Int)), u7, u8, u9, u10, u11, u12, u13, u14, u15, u16, u17, u18, u19, u20, u21, u22, u23, u24, u25, u26, u27, u28, u29, u30, u31, u32, u33, u34, u35, u36, u37, u38, u39, u40, u41, u42, u43, u44, u45, u46, u47, u48, u49, u50, u51, u52, u53, u54, u55, u56, u57, u58, u59, u60, u61, u62, u63, u64, u65, u66, u67, u68, u69, u70, u71, u72, u73, u74, u75, u76, u77, u78, u79, u80, u81, u82, u83, u84, u85, u86, u87, u88, u89, u90, u91, u92, u93, u94, u95, u96, u97, u98, u99, u100, u101, u102, u103, u104, u105, u106, u107, u108, u109, u110, u111, u112, u113, u114, u115, u116, u117, u118, u119, u120, u121, u122, u123, u124, u125, u126, u127, u128, u129, u130, u131, u132, u133, u134, u135, u136, u137, u138, u139, u140, u141, u142, u143, u144, u145, u146, u147, u148, u149, u150, u151, u152, u153, u154, u155, u156, u157, u158, u159, u160, u161, u162, u163, u164, u165, u166, u167, u168, u169, u170, u171, u172, u173, u174, u175, u176, u177, u178, u179, u180, u181, u182, u183, u184, u185, u186, u187, u188, u189, u190, u191, u192, u193, u194, u195, u196, u197, u198, u199, u200, u201, u202, u203, u204, u205, u206, u207, u208, u209, u210, u211, u212, u213, u214, u215, u216, u217, u218, u219, u220, u221, u222, u223, u224, u225, u226, u227, u228, u229, u230, u231, u232, u233, u234, u235, u236, u237, u238, u239, u240, u241, u242, u243, u244, u245, u246, u247, u248, u249, u250, u251, u252, u253, u254, u255, u256, u257, u258, u259, u260, u261, u262, u263, u264, u265], []⟩ w := by
  conv => arg 2; whnf
  have hs0 : w0.heap.size ≤ w.heap.size := hB.size
  have hbl := hbx.lt
  have hL1 : 1 ≤ L := by have := (validForm_bounds hval).1; simp only at this; omega
  have kL : I64 (L : Int) := by constructor <;> omega
  have HSM : Hid (SmallII cs) := small_few (n := 9) h9 (by decide) h3
  have HK : Hid (∀ wx, Below w.heap.size w wx → TwoC wx b 26 (.int .i64 L) (.slice fa cs.length fc)) := fun wx hx => hbx.below hx hbl
  have HI : Hid (∀ wx, Below w.heap.size w wx → Intss wx 0 w.heap.size (.slice fa cs.length fc) cs) := fun wx hx => hcs.below hx (Nat.le_refl _)
  have HF : Hid (∀ wx, Below w.heap.size w wx → FormR wx 0 wx.heap.size (.agg #[.int .i64 L, .slice fa cs.length fc]) ⟨L, cs⟩) := fun wx hx => ⟨⟨_, rfl, (HI.out wx hx).mono (Nat.le_refl _) hx.size (Nat.le_refl _)⟩, kL⟩
  have HB := Lib.hid hB
  have HY0 := Lib.hid h0
  have HY1 := Lib.hid h1
  have HV := Lib.hid hval
  have H3 := Lib.hid h3
  have q0 := hbx.c0
  have q1 := hbx.c1
  clear h0 h1 hB hbx hcs h3 hval
  obtain ⟨P, hp1, hp2, hp3⟩ := pureOk HV.out h9 h5
  have HP1 := Lib.hid hp1
  have HP3 := Lib.hid hp3
  obtain ⟨cN, hcN⟩ : ∃ cN, cN = countN L cs (2 ^ L) := ⟨_, rfl⟩
  rw [← hcN] at HP3
  rw [← hcN]
  clear hp1 hp3 hcN
  go_wp2_with fail
  refine (implPureIn_any w _ _ (HF.out w (Below.refl _ _)) (Nat.le_refl _) HSM.out).mono ?_
  rintro e w2 ⟨r, he, hr, hb2⟩
  rw [HP1.out] at he hr
  subst he
  simp only at hr
  have HR := Lib.hid hr
  have HB2 := Lib.hid hb2
  have hz2 : w.heap.size ≤ w2.heap.size := hb2.size
  obtain ⟨ra, rc, rfl⟩ := hr.shape2
  have q0 := (HK.out w2 hb2).c0
  have q1 := (HK.out w2 hb2).c1
  clear hr hb2
  go_wp2_with fail
  conv => arg 2; whnf
  go_wp2_with fail
  go_loopw [233] (fun iv wr => ∃ k : Nat, k ≤ P.length ∧ iv = .int .i64 k ∧ Below w2.heap.size w2 wr) (fun iv _ => P.length - (intOf iv).toNat)
  case atStart => exact ⟨0, Nat.zero_le _, rfl, Below.refl _ _⟩
  case round =>
    obtain ⟨k, hk, rfl, hbr⟩ := hrel
    have hbr2 := HB2.out.trans (hbr.mono hz2)
    have HBR := Lib.hid hbr
    have HBR2 := Lib.hid hbr2
    have hsr : w2.heap.size ≤ wr.heap.size := hbr.size
    have q0 := (HK.out wr hbr2).c0
    have q1 := (HK.out wr hbr2).c1
    by_cases hlt : k < P.length
    · rcases (HR.out.below hbr (Nat.le_refl _)).rd.out with ⟨ga, gc, ge, _, _, hd⟩
      injection ge with x1 x2 x3
      subst x1 x3
      rcases hd with hd | ⟨gb, go, rfl, _, _, _, hcell⟩
      · rw [hd] at hlt; simp at hlt
      have hck := hcell k hlt
      obtain ⟨y, hy⟩ : ∃ y, y = P[k] := ⟨_, rfl⟩
      have hck' : wr.cell? ⟨gb, go + k, none⟩ = some (.int .i64 y) := by rw [hck, hy, List.getD, List.getElem?_eq_getElem hlt]; rfl
      obtain ⟨ky, s, hs1, hs2, hs3⟩ := HP3.out y (by rw [hy]; exact List.getElem_mem hlt)
      have KY := Lib.hid ky
      have HS2 := Lib.hid hs2
      have HS3 := Lib.hid hs3
      clear hcell hck hy x2 ky hs2 hs3 hbr hbr2
      go_wp2_with fail
      refine reg46 wr (HK.out wr HBR2.out) ((HI.out wr HBR2.out).mono (Nat.le_refl _) HBR2.out.size (Nat.le_refl _)) h9 KY.out _ _ ?_
      intro zp va vc w3 t240 t241 t242 t243 t244 t245 t246 t247 t248 t249 t250 hz hc3 hb3
      have HZ := Lib.hid hz
      have HC3 := Lib.hid hc3
      have HB3 := Lib.hid (HBR.out.trans (hb3.mono hsr))
      have z0' := hz.c0
      have z1' := hz.c1
      have hls : Hid (SmallII (cs ++ [[y]])) := by
        refine ⟨by simp; omega, ?_⟩
        have := HSM.out.2
        have h27 := sum_le H3.out
        rw [List.map_append, List.sum_append]
        simp
        omega
      have hlen1 : Hid ((cs ++ [[y]]).length = cs.length + 1) := by simp [Hid]
      clear hz hc3 hb3
      go_wp2_with fail
      refine (specCountModels_any w3 _ ⟨(L : Int), cs ++ [[y]]⟩ ⟨⟨_, rfl, HC3.out⟩, kL⟩ (Nat.le_refl _) hls.out).mono ?_
      rintro e w4 ⟨he, hb4⟩
      rw [HS2.out] at he
      subst he
      have HB4 := Lib.hid (HB3.out.trans (hb4.mono HB3.out.size))
      clear hb4
      by_cases hc0 : (0 : Int) < (cN : Int)
      · have hs0' : (0 : Int) < (s : Int) := by have := HS3.out.2 (by omega); omega
        have g1 : decide ((0 : Int) < (cN : Int)) = true := decide_eq_true hc0
        have g2 : decide ((0 : Int) < (s : Int)) = true := decide_eq_true hs0'
        have g3 : 0 < cN := by omega
        have g4 : 0 < s := by omega
        go_wp2
        go_roundw
        case rel => exact ⟨k + 1, by omega, by go_num, HB4.out⟩
        case measure => simp [intOf]; omega
      · have hs0' : ¬ (0 : Int) < (s : Int) := by intro hh; have := HS3.out.1 (by omega); omega
        have g1 : decide ((0 : Int) < (cN : Int)) = false := decide_eq_false hc0
        have g2 : decide ((0 : Int) < (s : Int)) = false := decide_eq_false hs0'
        have g3 : ¬ 0 < cN := by omega
        have g4 : ¬ 0 < s := by omega
        go_wp2
        go_roundw
        case rel => exact ⟨k + 1, by omega, by go_num, HB4.out⟩
        case measure => simp [intOf]; omega
    · obtain rfl : k = P.length := by omega
      go_wp2
      go_ret
      exact ⟨rfl, HB.out.trans (HBR2.out.mono hs0)⟩
end Go.Proofs.Ytcpbgjnijhcpkaa

namespace Go.Proofs.Ytcpbgjnijhcpkaa
open Go.ChangeShapes Go.WideShapes Go.ChangeAt Go.RowKit
set_option linter.unusedVariables false
set_option maxRecDepth 100000

set_option maxHeartbeats 4000000 in
set_option maxRecDepth 100000 in
theorem clauses4 (w0 w : World) {u2 u3 u4 u7 u8 u9 u10 u11 u12 u13 u14 u15 u16 u17 u18 u19 u20 u21 u22 u25 u26 u28 u29 u30 u31 u32 u33 u34 u35 u36 u37 u38 u39 u40 u41 u42 u43 u44 u45 u46 u47 u48 u49 u50 u51 u52 u53 u54 u55 u56 u57 u58 u59 u60 u61 u62 u63 u64 u65 u66 u67 u68 u69 u70 u71 u72 u73 u74 u75 u76 u77 u78 u79 u80 u81 u82 u83 u84 u85 u86 u87 u88 u89 u90 u91 u92 u93 u94 u95 u96 u97 u98 u99 u100 u101 u102 u103 u104 u105 u106 u107 u108 u109 u110 u111 u112 u113 u114 u115 u116 u117 u118 u119 u120 u121 u122 u123 u124 u125 u126 u127 u128 u129 u130 u131 u132 u133 u134 u135 u136 u137 u138 u139 u140 u141 u142 u143 u144 u145 u146 u147 u148 u149 u150 u151 u152 u153 u154 u155 u156 u157 u158 u159 u160 u161 u162 u163 u164 u165 u166 u167 u168 u169 u170 u171 u172 u173 u174 u175 u176 u177 u178 u179 u180 u181 u182 u183 u184 u185 u186 u187 u188 u189 u190 u191 u192 u193 u194 u195 u196 u197 u198 u199 u200 u201 u202 u203 u204 u205 u206 u207 u208 u209 u210 u211 u212 u213 u214 u215 u216 u217 u218 u219 u220 u221 u222 u223 u224 u225 u226 u227 u228 u229 u230 u231 u232 u233 u234 u235 u236 u237 u238 u239 u240 u241 u242 u243 u244 u245 u246 u247 u248 u249 u250 u251 u252 u253 u254 u255 u256 u257 u258 u259 u260 u261 u262 u263 u264 u265 : Value} {v0 v1 : Value} {z0 z1 : List Int} (hB : Below w0.heap.size w0 w) (h0 : Byts w0 0 w0.heap.size v0 z0) (h1 : Byts w0 0 w0.heap.size v1 z1) {b L : Nat} {cs : List (List Int)} {fa : Option Addr} {fc : Nat} (hbx : TwoC w b 26 (.int .i64 (L : Int)) (.slice fa cs.length fc)) (hcs : Intss w 0 w.heap.size (.slice fa cs.length fc) cs) (hval : validForm ⟨(L : Int), cs⟩ = true) (h9 : cs.length ≤ 9) (h3 : ∀ c ∈ cs, c.length ≤ 3) (h5 : L ≤ 5) {y : Int} {T : List (List Int)} {U : List Int} {wrg : Bool} {s : Nat} (HGo : GiveOk L cs y T U wrg s) (ky : I64 y) {bt tc gc : Nat} {ta ga : Option Addr} (hbt : TwoC w bt 26 (.int .i64 (L : Int)) (.slice ta T.length tc)) (hT : Intss w 0 w.heap.size (.slice ta T.length tc) T) (hg : Ints w 0 w.heap.size (.slice ga 1 gc) [y]) :
    Code.wp Try.prog (hdC (tlC 20 bodyOf)) (Exit.then (Code.wp Try.prog (tlC 21 bodyOf) (bodyPost Try.prog Try.f6 fun e w' => e = .returned (.bool true) ∧ Below w0.heap.size w0 w')) (bodyPost Try.prog Try.f6 fun e w' => e = .returned (.bool true) ∧ Below w0.heap.size w0 w')) ⟨#[v0, v1, u2, u3, u4, (.pointer (some ⟨b, 0, none⟩)), (.int .i64 ((countN L cs (2 ^ L) : Nat) : Int)), u7, u8, u9, u10, u11, u12, u13, u14, u15, u16, u17, u18, u19, u20, u21, u22, (.slice ga 1 gc), (.pointer (some ⟨bt, 0, none⟩)), u25, u26, (.bool wrg), u28, u29, u30, u31, u32, u33, u34, u35, u36, u37, u38, u39, u40, u41, u42, u43, u44, u45, u46, u47, u48, u49, u50, u51, u52, u53, u54, u55, u56, u57, u58, u59, u60, u61, u62, u63, u64, u65, u66, u67, u68, u69, u70, u71, u72, u73, u74, u75, u76, u77, u78, u79, u80, u81, u82, u83, u84, u85, u86, u87, u88, u89, u90, u91, u92, u93, u94, u95, u96, u97, u98, u99, u100, u101, u102, u103, u104, u105, u106, u107, u108, u109, u110, u111, u112, u113, u114, u115, u116, u117, u118, u119, u120, u121, u122, u123, u124, u125, u126, u127, u128, u129, u130, u131, u132, u133, u134, u135, u136, u137, u138, u139, u140, u141, u142, u143, u144, u145, u146, u147, u148, u149, u150, u151, u152, u153, u154, u155, u156, u157, u158, u159, u160, u161, u162, u163, u164, u165, u166, u167, u168, u169, u170, u171, u172, u173, u174, u175, u176, u177, u178, u179, u180, u181, u182, u183, u184, u185, u186, u187, u188, u189, u190, u191, u192, u193, u194, u195, u196, u197, u198, u199, u200, u201, u202, u203, u204, u205, u206, u207, u208, u209, u210, u211, u212, u213, u214, u215, u216, u217, u218, u219, u220, u221, u222, u223, u224, u225, u226, u227, u228, u229, u230, u231, u232, u233, u234, u235, u236, u237, u238, u239, u240, u241, u242, u243, u244, u245, u246, u247, u248, u249, u250, u251, u252, u253, u254, u255, u256, u257, u258, u259, u260, u261, u262, u263, u264, u265], []⟩ w := by
  conv => arg 2; whnf
  have hs0 : w0.heap.size ≤ w.heap.size := hB.size
  have hbl := hbx.lt
  have hL1 : 1 ≤ L := by have := (validForm_bounds hval).1; simp only at this; omega
  have kL : I64 (L : Int) := by constructor <;> omega
  have HSM : Hid (SmallII cs) := small_few (n := 9) h9 (by decide) h3
  have HK : Hid (∀ wx, Below w.heap.size w wx → TwoC wx b 26 (.int .i64 L) (.slice fa cs.length fc)) := fun wx hx => hbx.below hx hbl
  have HI : Hid (∀ wx, Below w.heap.size w wx → Intss wx 0 w.heap.size (.slice fa cs.length fc) cs) := fun wx hx => hcs.below hx (Nat.le_refl _)
  have HF : Hid (∀ wx, Below w.heap.size w wx → FormR wx 0 wx.heap.size (.agg #[.int .i64 L, .slice fa cs.length fc]) ⟨L, cs⟩) := fun wx hx => ⟨⟨_, rfl, (HI.out wx hx).mono (Nat.le_refl _) hx.size (Nat.le_refl _)⟩, kL⟩
  have HB := Lib.hid hB
  have HY0 := Lib.hid h0
  have HY1 := Lib.hid h1
  have HV := Lib.hid hval
  have H3 := Lib.hid h3
  have q0 := hbx.c0
  have q1 := hbx.c1
  clear h0 h1 hB hbx hcs h3 hval
  have HGI := Lib.hid HGo
  have hbtl := hbt.lt
  have HTB : Hid (∀ wx, Below w.heap.size w wx → TwoC wx bt 26 (.int .i64 (L : Int)) (.slice ta T.length tc)) := fun wx hx => hbt.below hx hbtl
  have HT := Lib.hid hT
  have HG := Lib.hid hg
  have KY := Lib.hid ky
  have e0 := hbt.c0
  have e1 := hbt.c1
  obtain ⟨cN, hcN⟩ : ∃ cN : Int, cN = ((countN L cs (2 ^ L) : Nat) : Int) := ⟨_, rfl⟩
  clear hbt hT hg HGo
  go_wp2_with fail
  refine (specCountModels_any w _ ⟨(L : Int), T⟩ ⟨⟨_, rfl, HT.out⟩, kL⟩ (Nat.le_refl _) HGI.out.small).mono ?_
  rintro e w2 ⟨he, hb2⟩
  rw [HGI.out.cnt] at he
  subst he
  obtain ⟨m2, hm2⟩ : ∃ m2 : Int, m2 = ((2 * s : Nat) : Int) := ⟨_, rfl⟩
  rw [← hm2]
  have HM2 := Lib.hid hm2
  have HB2 := Lib.hid hb2
  have hz2 : w.heap.size ≤ w2.heap.size := hb2.size
  have q0 := (HK.out w2 hb2).c0
  have q1 := (HK.out w2 hb2).c1
  clear hb2 hm2
  go_wp2_with fail
  conv => arg 2; whnf
  go_wp2_with fail
  refine reg35 w2 (HK.out w2 HB2.out) ((HI.out w2 HB2.out).mono (Nat.le_refl _) hz2 (Nat.le_refl _)) h9 ((HG.out.below HB2.out (Nat.le_refl _)).mono (Nat.le_refl _) hz2 (Nat.le_refl _)) _ _ ?_
  intro zp va vc w3 t190 t191 t192 t193 t194 t195 t196 t197 t198 t199 hz hc3 hb3
  have HZ := Lib.hid hz
  have HC3 := Lib.hid hc3
  have HB3 := Lib.hid (HB2.out.trans (hb3.mono hz2))
  have z0' := hz.c0
  have z1' := hz.c1
  have hls : Hid (SmallII (cs ++ [[y]])) := by
    refine ⟨by simp; omega, ?_⟩
    have h27 := sum_le H3.out
    rw [List.map_append, List.sum_append]
    simp
    omega
  have hlen1 : Hid ((cs ++ [[y]]).length = cs.length + 1) := by simp [Hid]
  clear hz hc3 hb3
  go_wp2_with fail
  refine (specCountModels_any w3 _ ⟨(L : Int), cs ++ [[y]]⟩ ⟨⟨_, rfl, HC3.out⟩, kL⟩ (Nat.le_refl _) hls.out).mono ?_
  rintro e w4 ⟨he, hb4⟩
  rw [HGI.out.both] at he
  subst he
  have HB4 := Lib.hid (HB3.out.trans (hb4.mono HB3.out.size))
  have q0 := (HK.out w4 HB4.out).c0
  have q1 := (HK.out w4 HB4.out).c1
  have hle := HGI.out.le
  obtain ⟨s1, hs1⟩ : ∃ s1 : Int, s1 = (s : Int) := ⟨_, rfl⟩
  have hmm : m2 = 2 * s1 := by rw [HM2.out, hs1]; omega
  have hw2 : IntKind.i64.wrap (2 * s1) = 2 * s1 := IntWalk.i64_in _ (by omega)
  have hsr : 0 ≤ s1 ∧ s1 ≤ 32 := by omega
  rw [← hs1]
  have HS1 := Lib.hid hs1
  clear hb4 hs1
  cases wrg
  · subst hmm
    go_upto_region 39 with (fail)
    exact join_part (by assumption) (clauses5 w0 w4 (HB.out.trans (HB4.out.mono hs0)) HY0.out HY1.out (HK.out w4 HB4.out) ((HI.out w4 HB4.out).mono (Nat.le_refl _) HB4.out.size (Nat.le_refl _)) HV.out h9 H3.out h5)
  · obtain rfl : s1 = 0 := by rw [HS1.out, HGI.out.wrong rfl]; rfl
    obtain rfl : m2 = 0 := by omega
    clear hmm hw2 hsr HM2 HS1
    go_upto_region 39 with (fail)
    exact join_part (by assumption) (clauses5 w0 w4 (HB.out.trans (HB4.out.mono hs0)) HY0.out HY1.out (HK.out w4 HB4.out) ((HI.out w4 HB4.out).mono (Nat.le_refl _) HB4.out.size (Nat.le_refl _)) HV.out h9 H3.out h5)
theorem one_ints {w : World} {p : Nat} {y : Int} (h : OneC w p 2 (.int .i64 y)) (ky : I64 y) : Ints w p (p + 1) (.slice (some ⟨p, 0, none⟩) 1 1) [y] := by
  refine ⟨⟨some ⟨p, 0, none⟩, 1, rfl, Nat.le_refl _, by decide, .inr ⟨p, 0, rfl, Nat.le_refl _, Nat.lt_succ_self _, h.lt, fun i hi => ?_⟩⟩, by simpa using ky⟩
  have : i = 0 := by simpa using hi
  subst this
  exact h.cell
set_option maxHeartbeats 4000000 in
set_option maxRecDepth 100000 in
theorem clauses3 (w0 w : World) {u2 u3 u4 u7 u8 u9 u10 u11 u13 u14 u15 u16 u17 u18 u19 u20 u21 u22 u23 u24 u25 u26 u27 u28 u29 u30 u31 u32 u33 u34 u35 u36 u37 u38 u39 u40 u41 u42 u43 u44 u45 u46 u47 u48 u49 u50 u51 u52 u53 u54 u55 u56 u57 u58 u59 u60 u61 u62 u63 u64 u65 u66 u67 u68 u69 u70 u71 u72 u73 u74 u75 u76 u77 u78 u79 u80 u81 u82 u83 u84 u85 u86 u87 u88 u89 u90 u91 u92 u93 u94 u95 u96 u97 u98 u99 u100 u101 u102 u103 u104 u105 u106 u107 u108 u109 u110 u111 u112 u113 u114 u115 u116 u117 u118 u119 u120 u121 u122 u123 u124 u125 u126 u127 u128 u129 u130 u131 u132 u133 u134 u135 u136 u137 u138 u139 u140 u141 u142 u143 u144 u145 u146 u147 u148 u149 u150 u151 u152 u153 u154 u155 u156 u157 u158 u159 u160 u161 u162 u163 u164 u165 u166 u167 u168 u169 u170 u171 u172 u173 u174 u175 u176 u177 u178 u179 u180 u181 u182 u183 u184 u185 u186 u187 u188 u189 u190 u191 u192 u193 u194 u195 u196 u197 u198 u199 u200 u201 u202 u203 u204 u205 u206 u207 u208 u209 u210 u211 u212 u213 u214 u215 u216 u217 u218 u219 u220 u221 u222 u223 u224 u225 u226 u227 u228 u229 u230 u231 u232 u233 u234 u235 u236 u237 u238 u239 u240 u241 u242 u243 u244 u245 u246 u247 u248 u249 u250 u251 u252 u253 u254 u255 u256 u257 u258 u259 u260 u261 u262 u263 u264 u265 : Value} {v0 v1 : Value} {z0 z1 : List Int} (hB : Below w0.heap.size w0 w) (h0 : Byts w0 0 w0.heap.size v0 z0) (h1 : Byts w0 0 w0.heap.size v1 z1) {b L : Nat} {cs : List (List Int)} {fa : Option Addr} {fc : Nat} (hbx : TwoC w b 26 (.int .i64 (L : Int)) (.slice fa cs.length fc)) (hcs : Intss w 0 w.heap.size (.slice fa cs.length fc) cs) (hval : validForm ⟨(L : Int), cs⟩ = true) (h9 : cs.length ≤ 9) (h3 : ∀ c ∈ cs, c.length ≤ 3) (h5 : L ≤ 5) {x : Nat} (hx1 : 1 ≤ x) (hx2 : x ≤ L) :
    Code.wp Try.prog (hdC (tlC 15 bodyOf)) (Exit.then (Code.wp Try.prog (tlC 16 bodyOf) (bodyPost Try.prog Try.f6 fun e w' => e = .returned (.bool true) ∧ Below w0.heap.size w0 w')) (bodyPost Try.prog Try.f6 fun e w' => e = .returned (.bool true) ∧ Below w0.heap.size w0 w')) ⟨#[v0, v1, u2, u3, u4, (.pointer (some ⟨b, 0, none⟩)), (.int .i64 ((countN L cs (2 ^ L) : Nat) : Int)), u7, u8, u9, u10, u11, (.int .i64 (x : Int)), u13, u14, u15, u16, u17, u18, u19, u20, u21, u22, u23, u24, u25, u26, u27, u28, u29, u30, u31, u32, u33, u34, u35, u36, u37, u38, u39, u40, u41, u42, u43, u44, u45, u46, u47, u48, u49, u50, u51, u52, u53, u54, u55, u56, u57, u58, u59, u60, u61, u62, u63, u64, u65, u66, u67, u68, u69, u70, u71, u72, u73, u74, u75, u76, u77, u78, u79, u80, u81, u82, u83, u84, u85, u86, u87, u88, u89, u90, u91, u92, u93, u94, u95, u96, u97, u98, u99, u100, u101, u102, u103, u104, u105, u106, u107, u108, u109, u110, u111, u112, u113, u114, u115, u116, u117, u118, u119, u120, u121, u122, u123, u124, u125, u126, u127, u128, u129, u130, u131, u132, u133, u134, u135, u136, u137, u138, u139, u140, u141, u142, u143, u144, u145, u146, u147, u148, u149, u150, u151, u152, u153, u154, u155, u156, u157, u158, u159, u160, u161, u162, u163, u164, u165, u166, u167, u168, u169, u170, u171, u172, u173, u174, u175, u176, u177, u178, u179, u180, u181, u182, u183, u184, u185, u186, u187, u188, u189, u190, u191, u192, u193, u194, u195, u196, u197, u198, u199, u200, u201, u202, u203, u204, u205, u206, u207, u208, u209, u210, u211, u212, u213, u214, u215, u216, u217, u218, u219, u220, u221, u222, u223, u224, u225, u226, u227, u228, u229, u230, u231, u232, u233, u234, u235, u236, u237, u238, u239, u240, u241, u242, u243, u244, u245, u246, u247, u248, u249, u250, u251, u252, u253, u254, u255, u256, u257, u258, u259, u260, u261, u262, u263, u264, u265], []⟩ w := by
  conv => arg 2; whnf
  have hs0 : w0.heap.size ≤ w.heap.size := hB.size
  have hbl := hbx.lt
  have hL1 : 1 ≤ L := by have := (validForm_bounds hval).1; simp only at this; omega
  have kL : I64 (L : Int) := by constructor <;> omega
  have HSM : Hid (SmallII cs) := small_few (n := 9) h9 (by decide) h3
  have HK : Hid (∀ wx, Below w.heap.size w wx → TwoC wx b 26 (.int .i64 L) (.slice fa cs.length fc)) := fun wx hx => hbx.below hx hbl
  have HI : Hid (∀ wx, Below w.heap.size w wx → Intss wx 0 w.heap.size (.slice fa cs.length fc) cs) := fun wx hx => hcs.below hx (Nat.le_refl _)
  have HF : Hid (∀ wx, Below w.heap.size w wx → FormR wx 0 wx.heap.size (.agg #[.int .i64 L, .slice fa cs.length fc]) ⟨L, cs⟩) := fun wx hx => ⟨⟨_, rfl, (HI.out wx hx).mono (Nat.le_refl _) hx.size (Nat.le_refl _)⟩, kL⟩
  have HB := Lib.hid hB
  have HY0 := Lib.hid h0
  have HY1 := Lib.hid h1
  have HV := Lib.hid hval
  have H3 := Lib.hid h3
  have q0 := hbx.c0
  have q1 := hbx.c1
  clear h0 h1 hB hbx hcs h3 hval
  have hAT := b10At_any v1 z1 1 2 (w.alloc (.cells #[.int .i64 (x : Int)] 2)) (HY1.out.below (HB.out.trans ((alloc_below w _).mono hs0)) (Nat.le_refl _)) (by decide) (by decide) (by decide)
  obtain ⟨a, ha⟩ : ∃ a, a = atF z1 1 2 := ⟨_, rfl⟩
  simp only [show ((1 : Nat) : Int) = 1 from rfl, ← ha] at hAT
  have HAT := Lib.hid hAT
  have hoc0 := OneC.new w 2 (.int .i64 (x : Int))
  have hoff := hoc0.free
  have hocc := hoc0.cell
  have HOC0 := Lib.hid hoc0
  clear hAT ha hoc0
  by_cases ha0 : a = 0
  · subst ha0
    obtain ⟨y, hy⟩ : ∃ y : Int, y = -(x : Int) := ⟨_, rfl⟩
    have hlet : IsLet x y := .inr hy
    have KY : Hid (I64 y) := by rw [hy]; constructor <;> omega
    obtain ⟨T, U, wrg, s, hgo⟩ := giveOk HV.out hx1 hx2 h5 hlet h9 H3.out
    obtain ⟨wg, hwg⟩ : ∃ X, X = w.alloc (.cells #[.int .i64 (-(x : Int))] 2) := ⟨_, rfl⟩
    have HOC : Hid (OneC wg w.heap.size 2 (.int .i64 y)) := by rw [hwg, hy]; exact OneC.new _ _ _
    have HBG : Hid (Below w.heap.size w wg) := by rw [hwg]; exact alloc_below w _
    go_wp2_with fail
    conv => arg 2; whnf
    go_wp2_with fail
    refine HAT.out.mono ?_
    rintro e w' ⟨rfl, rfl⟩
    go_upto_region 30 with (fail)
    rw [← hwg]
    clear hwg
    have HGE := Lib.hid hgo
    have hbg := HBG.out.size
    have q0 := (HK.out wg HBG.out).c0
    have q1 := (HK.out wg HBG.out).c1
    have HGN : Hid (∀ wx, Below wg.heap.size wg wx → Ints wx 0 wg.heap.size (.slice (some ⟨w.heap.size, 0, none⟩) 1 1) [y]) := fun wx hx =>
      ((one_ints HOC.out KY.out).mono (Nat.zero_le _) HOC.out.lt (Nat.le_refl _)).below hx (Nat.le_refl _)
    clear hgo
    go_wp2_with fail
    refine (implGiveForm_any wg _ ⟨(L : Int), cs⟩ _ [y] (HF.out wg HBG.out) (Nat.le_refl _) HSM.out (HGN.out wg (Below.refl _ _)) (Nat.le_refl _) (by simp)).mono ?_
    rintro e w2 ⟨r, he, hr, hb2⟩
    rw [HGE.out.give] at he hr
    subst he
    simp only at hr
    obtain ⟨u, rfl, hu⟩ := hr.ex
    obtain ⟨ua, uc, rfl⟩ := hu.shape
    simp only at hu
    obtain ⟨W, hW⟩ : ∃ X, X = w2.alloc (.cells #[.int .i64 L, .slice ua T.length uc] 26) := ⟨_, rfl⟩
    obtain ⟨bt, hbb⟩ : ∃ b, b = w2.heap.size := ⟨_, rfl⟩
    have hbt : TwoC W bt 26 (.int .i64 L) (.slice ua T.length uc) := by rw [hW, hbb]; exact TwoC.new _ _ _ _
    have hbW : Below w2.heap.size w2 W := by rw [hW]; exact alloc_below _ _
    have hz2 : wg.heap.size ≤ w2.heap.size := hb2.size
    have hzW : w2.heap.size ≤ W.heap.size := hbW.size
    have HBg2 := Lib.hid (hb2.trans (hbW.mono hz2))
    have HB2 := Lib.hid (HBG.out.trans (HBg2.out.mono hbg))
    have HU := Lib.hid ((hu.below hbW (Nat.le_refl _)).rd.mono (Nat.zero_le _) hzW (Nat.le_refl _))
    have HBT := Lib.hid hbt
    have q0 := (HK.out W HB2.out).c0
    have q1 := (HK.out W HB2.out).c1
    clear hr hu hb2 hbW hbt
    go_upto_region 31 with (fail)
    rw [← hW, ← hbb]
    clear hW hbb
    go_wp2_with fail
    refine (implUnitsOf_any W _ ⟨(L : Int), cs⟩ _ [y] (HF.out W HB2.out) (Nat.le_refl _) HSM.out (HGN.out W HBg2.out) HBg2.out.size (by simp)).mono ?_
    rintro e w3 ⟨r, he, hr, hb3⟩
    rw [HGE.out.units] at he hr
    subst he
    simp only at hr
    obtain ⟨rest, hrest⟩ := HGE.out.fst
    have HB3 := Lib.hid (HB2.out.trans (hb3.mono HB2.out.size))
    have HBg3 := Lib.hid (HBg2.out.trans (hb3.mono HBg2.out.size))
    have hlU : 0 < U.length := by rw [hrest]; simp
    rcases hr.rd.out with ⟨ra, rc, rfl, _, _, hd⟩
    rcases hd with hd | ⟨rb, ro, rfl, _, _, _, hcell⟩
    · rw [hd] at hlU; simp at hlU
    have hu0 := hcell 0 hlU
    have hu0' : w3.cell? ⟨rb, ro, none⟩ = some (.int .i64 y) := by rw [Nat.add_zero] at hu0; rw [hu0, hrest]; rfl
    obtain ⟨lu, hlu⟩ : ∃ lu, lu = U.length := ⟨_, rfl⟩
    rw [← hlu]
    rw [← hlu] at hlU
    have hg0 := (HOC.out.below HBg3.out HOC.out.lt).cell
    have hU1 : ¬ lu < 1 := by omega
    have hU1' : ¬ (lu : Int) < 1 := by omega
    have hU2 : (0 : Int) < (lu : Int) := by omega
    have HBT3 := Lib.hid (HBT.out.below hb3 HBT.out.lt)
    have HU3 := Lib.hid ((HU.out.below hb3 (Nat.le_refl _)).mono (Nat.le_refl _) hb3.size (Nat.le_refl _))
    have HGN3 := Lib.hid ((HGN.out w3 HBg3.out).mono (Nat.le_refl _) HBg3.out.size (Nat.le_refl _))
    clear hr hb3 hcell hu0 hrest hlu
    go_wp2_with fail
    go_quiet (fail)
    obtain ⟨w4, hw4⟩ : ∃ w4, w4 = w3.drewN nq := ⟨_, rfl⟩
    have hD4 : Drew w3 w4 := ⟨_, hw4⟩
    rw [← hw4]
    clear hw4
    have HB4 := Lib.hid (HB3.out.trans (hD4.below _))
    go_upto_region 34 with (fail)
    exact join_part (by assumption) (clauses4 w0 w4 (HB.out.trans (HB4.out.mono hs0)) HY0.out HY1.out (HK.out w4 HB4.out) ((HI.out w4 HB4.out).mono (Nat.le_refl _) HB4.out.size (Nat.le_refl _)) HV.out h9 H3.out h5 HGE.out KY.out (HBT3.out.drew hD4) ((HU3.out.drew hD4).mono (Nat.le_refl _) (by rw [hD4.heap]; exact Nat.le_refl _) (Nat.le_refl _)) ((HGN3.out.drew hD4).mono (Nat.le_refl _) (by rw [hD4.heap]; exact Nat.le_refl _) (Nat.le_refl _)))
  · obtain ⟨y, hy⟩ : ∃ y : Int, y = (x : Int) := ⟨_, rfl⟩
    have hlet : IsLet x y := .inl hy
    have KY : Hid (I64 y) := by rw [hy]; constructor <;> omega
    obtain ⟨T, U, wrg, s, hgo⟩ := giveOk HV.out hx1 hx2 h5 hlet h9 H3.out
    obtain ⟨wg, hwg⟩ : ∃ X, X = w.alloc (.cells #[.int .i64 (x : Int)] 2) := ⟨_, rfl⟩
    have HOC : Hid (OneC wg w.heap.size 2 (.int .i64 y)) := by rw [hwg, hy]; exact HOC0.out
    have HBG : Hid (Below w.heap.size w wg) := by rw [hwg]; exact alloc_below w _
    go_wp2_with fail
    conv => arg 2; whnf
    go_wp2_with fail
    refine HAT.out.mono ?_
    rintro e w' ⟨rfl, rfl⟩
    go_upto_region 30 with (fail)
    rw [← hwg]
    clear hwg
    have HGE := Lib.hid hgo
    have hbg := HBG.out.size
    have q0 := (HK.out wg HBG.out).c0
    have q1 := (HK.out wg HBG.out).c1
    have HGN : Hid (∀ wx, Below wg.heap.size wg wx → Ints wx 0 wg.heap.size (.slice (some ⟨w.heap.size, 0, none⟩) 1 1) [y]) := fun wx hx =>
      ((one_ints HOC.out KY.out).mono (Nat.zero_le _) HOC.out.lt (Nat.le_refl _)).below hx (Nat.le_refl _)
    clear hgo
    go_wp2_with fail
    refine (implGiveForm_any wg _ ⟨(L : Int), cs⟩ _ [y] (HF.out wg HBG.out) (Nat.le_refl _) HSM.out (HGN.out wg (Below.refl _ _)) (Nat.le_refl _) (by simp)).mono ?_
    rintro e w2 ⟨r, he, hr, hb2⟩
    rw [HGE.out.give] at he hr
    subst he
    simp only at hr
    obtain ⟨u, rfl, hu⟩ := hr.ex
    obtain ⟨ua, uc, rfl⟩ := hu.shape
    simp only at hu
    obtain ⟨W, hW⟩ : ∃ X, X = w2.alloc (.cells #[.int .i64 L, .slice ua T.length uc] 26) := ⟨_, rfl⟩
    obtain ⟨bt, hbb⟩ : ∃ b, b = w2.heap.size := ⟨_, rfl⟩
    have hbt : TwoC W bt 26 (.int .i64 L) (.slice ua T.length uc) := by rw [hW, hbb]; exact TwoC.new _ _ _ _
    have hbW : Below w2.heap.size w2 W := by rw [hW]; exact alloc_below _ _
    have hz2 : wg.heap.size ≤ w2.heap.size := hb2.size
    have hzW : w2.heap.size ≤ W.heap.size := hbW.size
    have HBg2 := Lib.hid (hb2.trans (hbW.mono hz2))
    have HB2 := Lib.hid (HBG.out.trans (HBg2.out.mono hbg))
    have HU := Lib.hid ((hu.below hbW (Nat.le_refl _)).rd.mono (Nat.zero_le _) hzW (Nat.le_refl _))
    have HBT := Lib.hid hbt
    have q0 := (HK.out W HB2.out).c0
    have q1 := (HK.out W HB2.out).c1
    clear hr hu hb2 hbW hbt
    go_upto_region 31 with (fail)
    rw [← hW, ← hbb]
    clear hW hbb
    go_wp2_with fail
    refine (implUnitsOf_any W _ ⟨(L : Int), cs⟩ _ [y] (HF.out W HB2.out) (Nat.le_refl _) HSM.out (HGN.out W HBg2.out) HBg2.out.size (by simp)).mono ?_
    rintro e w3 ⟨r, he, hr, hb3⟩
    rw [HGE.out.units] at he hr
    subst he
    simp only at hr
    obtain ⟨rest, hrest⟩ := HGE.out.fst
    have HB3 := Lib.hid (HB2.out.trans (hb3.mono HB2.out.size))
    have HBg3 := Lib.hid (HBg2.out.trans (hb3.mono HBg2.out.size))
    have hlU : 0 < U.length := by rw [hrest]; simp
    rcases hr.rd.out with ⟨ra, rc, rfl, _, _, hd⟩
    rcases hd with hd | ⟨rb, ro, rfl, _, _, _, hcell⟩
    · rw [hd] at hlU; simp at hlU
    have hu0 := hcell 0 hlU
    have hu0' : w3.cell? ⟨rb, ro, none⟩ = some (.int .i64 y) := by rw [Nat.add_zero] at hu0; rw [hu0, hrest]; rfl
    obtain ⟨lu, hlu⟩ : ∃ lu, lu = U.length := ⟨_, rfl⟩
    rw [← hlu]
    rw [← hlu] at hlU
    have hg0 := (HOC.out.below HBg3.out HOC.out.lt).cell
    have hU1 : ¬ lu < 1 := by omega
    have hU1' : ¬ (lu : Int) < 1 := by omega
    have hU2 : (0 : Int) < (lu : Int) := by omega
    have HBT3 := Lib.hid (HBT.out.below hb3 HBT.out.lt)
    have HU3 := Lib.hid ((HU.out.below hb3 (Nat.le_refl _)).mono (Nat.le_refl _) hb3.size (Nat.le_refl _))
    have HGN3 := Lib.hid ((HGN.out w3 HBg3.out).mono (Nat.le_refl _) HBg3.out.size (Nat.le_refl _))
    clear hr hb3 hcell hu0 hrest hlu
    go_wp2_with fail
    go_quiet (fail)
    obtain ⟨w4, hw4⟩ : ∃ w4, w4 = w3.drewN nq := ⟨_, rfl⟩
    have hD4 : Drew w3 w4 := ⟨_, hw4⟩
    rw [← hw4]
    clear hw4
    have HB4 := Lib.hid (HB3.out.trans (hD4.below _))
    go_upto_region 34 with (fail)
    exact join_part (by assumption) (clauses4 w0 w4 (HB.out.trans (HB4.out.mono hs0)) HY0.out HY1.out (HK.out w4 HB4.out) ((HI.out w4 HB4.out).mono (Nat.le_refl _) HB4.out.size (Nat.le_refl _)) HV.out h9 H3.out h5 HGE.out KY.out (HBT3.out.drew hD4) ((HU3.out.drew hD4).mono (Nat.le_refl _) (by rw [hD4.heap]; exact Nat.le_refl _) (Nat.le_refl _)) ((HGN3.out.drew hD4).mono (Nat.le_refl _) (by rw [hD4.heap]; exact Nat.le_refl _) (Nat.le_refl _)))
end Go.Proofs.Ytcpbgjnijhcpkaa

namespace Go.Proofs.Ytcpbgjnijhcpkaa
open Go.ChangeShapes Go.WideShapes Go.ChangeAt Go.RowKit
set_option linter.unusedVariables false
set_option maxRecDepth 100000

def notX (x k : Nat) : Bool := decide (k ≠ x)
theorem sameForm_selfC (f : FormD) : sameForm f f = true := by unfold sameForm; exact decide_eq_true rfl
set_option maxHeartbeats 4000000 in
set_option maxRecDepth 100000 in
theorem clauses2 (w0 w : World) {u2 u3 u4 u7 u8 u9 u10 u11 u12 u13 u14 u15 u16 u17 u18 u19 u20 u21 u22 u23 u24 u25 u26 u27 u28 u29 u30 u31 u32 u33 u34 u35 u36 u37 u38 u39 u40 u41 u42 u43 u44 u45 u46 u47 u48 u49 u50 u51 u52 u53 u54 u55 u56 u57 u58 u59 u60 u61 u62 u63 u64 u65 u66 u67 u68 u69 u70 u71 u72 u73 u74 u75 u76 u77 u78 u79 u80 u81 u82 u83 u84 u85 u86 u87 u88 u89 u90 u91 u92 u93 u94 u95 u96 u97 u98 u99 u100 u101 u102 u103 u104 u105 u106 u107 u108 u109 u110 u111 u112 u113 u114 u115 u116 u117 u118 u119 u120 u121 u122 u123 u124 u125 u126 u127 u128 u129 u130 u131 u132 u133 u134 u135 u136 u137 u138 u139 u140 u141 u142 u143 u144 u145 u146 u147 u148 u149 u150 u151 u152 u153 u154 u155 u156 u157 u158 u159 u160 u161 u162 u163 u164 u165 u166 u167 u168 u169 u170 u171 u172 u173 u174 u175 u176 u177 u178 u179 u180 u181 u182 u183 u184 u185 u186 u187 u188 u189 u190 u191 u192 u193 u194 u195 u196 u197 u198 u199 u200 u201 u202 u203 u204 u205 u206 u207 u208 u209 u210 u211 u212 u213 u214 u215 u216 u217 u218 u219 u220 u221 u222 u223 u224 u225 u226 u227 u228 u229 u230 u231 u232 u233 u234 u235 u236 u237 u238 u239 u240 u241 u242 u243 u244 u245 u246 u247 u248 u249 u250 u251 u252 u253 u254 u255 u256 u257 u258 u259 u260 u261 u262 u263 u264 u265 : Value} {v0 v1 : Value} {z0 z1 : List Int} (hB : Below w0.heap.size w0 w) (h0 : Byts w0 0 w0.heap.size v0 z0) (h1 : Byts w0 0 w0.heap.size v1 z1) {b L : Nat} {cs : List (List Int)} {fa : Option Addr} {fc : Nat} (hbx : TwoC w b 26 (.int .i64 (L : Int)) (.slice fa cs.length fc)) (hcs : Intss w 0 w.heap.size (.slice fa cs.length fc) cs) (hval : validForm ⟨(L : Int), cs⟩ = true) (h9 : cs.length ≤ 9) (h3 : ∀ c ∈ cs, c.length ≤ 3) (h5 : L ≤ 5) :
    Code.wp Try.prog (hdC (tlC 8 bodyOf)) (Exit.then (Code.wp Try.prog (tlC 9 bodyOf) (bodyPost Try.prog Try.f6 fun e w' => e = .returned (.bool true) ∧ Below w0.heap.size w0 w')) (bodyPost Try.prog Try.f6 fun e w' => e = .returned (.bool true) ∧ Below w0.heap.size w0 w')) ⟨#[v0, v1, u2, u3, u4, (.pointer (some ⟨b, 0, none⟩)), (.int .i64 ((countN L cs (2 ^ L) : Nat) : Int)), u7, u8, u9, u10, u11, u12, u13, u14, u15, u16, u17, u18, u19, u20, u21, u22, u23, u24, u25, u26, u27, u28, u29, u30, u31, u32, u33, u34, u35, u36, u37, u38, u39, u40, u41, u42, u43, u44, u45, u46, u47, u48, u49, u50, u51, u52, u53, u54, u55, u56, u57, u58, u59, u60, u61, u62, u63, u64, u65, u66, u67, u68, u69, u70, u71, u72, u73, u74, u75, u76, u77, u78, u79, u80, u81, u82, u83, u84, u85, u86, u87, u88, u89, u90, u91, u92, u93, u94, u95, u96, u97, u98, u99, u100, u101, u102, u103, u104, u105, u106, u107, u108, u109, u110, u111, u112, u113, u114, u115, u116, u117, u118, u119, u120, u121, u122, u123, u124, u125, u126, u127, u128, u129, u130, u131, u132, u133, u134, u135, u136, u137, u138, u139, u140, u141, u142, u143, u144, u145, u146, u147, u148, u149, u150, u151, u152, u153, u154, u155, u156, u157, u158, u159, u160, u161, u162, u163, u164, u165, u166, u167, u168, u169, u170, u171, u172, u173, u174, u175, u176, u177, u178, u179, u180, u181, u182, u183, u184, u185, u186, u187, u188, u189, u190, u191, u192, u193, u194, u195, u196, u197, u198, u199, u200, u201, u202, u203, u204, u205, u206, u207, u208, u209, u210, u211, u212, u213, u214, u215, u216, u217, u218, u219, u220, u221, u222, u223, u224, u225, u226, u227, u228, u229, u230, u231, u232, u233, u234, u235, u236, u237, u238, u239, u240, u241, u242, u243, u244, u245, u246, u247, u248, u249, u250, u251, u252, u253, u254, u255, u256, u257, u258, u259, u260, u261, u262, u263, u264, u265], []⟩ w := by
  conv => arg 2; whnf
  have hs0 : w0.heap.size ≤ w.heap.size := hB.size
  have hbl := hbx.lt
  have hL1 : 1 ≤ L := by have := (validForm_bounds hval).1; simp only at this; omega
  have kL : I64 (L : Int) := by constructor <;> omega
  have HSM : Hid (SmallII cs) := small_few (n := 9) h9 (by decide) h3
  have HK : Hid (∀ wx, Below w.heap.size w wx → TwoC wx b 26 (.int .i64 L) (.slice fa cs.length fc)) := fun wx hx => hbx.below hx hbl
  have HI : Hid (∀ wx, Below w.heap.size w wx → Intss wx 0 w.heap.size (.slice fa cs.length fc) cs) := fun wx hx => hcs.below hx (Nat.le_refl _)
  have HF : Hid (∀ wx, Below w.heap.size w wx → FormR wx 0 wx.heap.size (.agg #[.int .i64 L, .slice fa cs.length fc]) ⟨L, cs⟩) := fun wx hx => ⟨⟨_, rfl, (HI.out wx hx).mono (Nat.le_refl _) hx.size (Nat.le_refl _)⟩, kL⟩
  have HB := Lib.hid hB
  have HY0 := Lib.hid h0
  have HY1 := Lib.hid h1
  have HV := Lib.hid hval
  have H3 := Lib.hid h3
  have q0 := hbx.c0
  have q1 := hbx.c1
  clear h0 h1 hB hbx hcs h3 hval
  have hxr := atF_rng z1 0 (L : Int) (by omega)
  have hAT := b10At_any v1 z1 0 (L : Int) w (HY1.out.below HB.out (Nat.le_refl _)) (by decide) (by omega) (by omega)
  obtain ⟨x, hx⟩ : ∃ x : Nat, 1 + atF z1 0 (L : Int) = (x : Int) := ⟨(1 + atF z1 0 (L : Int)).toNat, by omega⟩
  obtain ⟨a, ha⟩ : ∃ a, a = atF z1 0 (L : Int) := ⟨_, rfl⟩
  simp only [show ((0 : Nat) : Int) = 0 from rfl, ← ha] at hAT
  rw [← ha] at hx hxr
  have HAT := Lib.hid hAT
  have hx1 : 1 ≤ x := by omega
  have hx2 : x ≤ L := by omega
  have hwx : IntKind.i64.wrap (1 + a) = (x : Int) := by rw [hx]; exact IntWalk.i64_in _ (by omega)
  obtain ⟨F, lb, hle⟩ : ∃ F lb, leaveF ⟨(L : Int), cs⟩ (x : Int) = (F, lb) := ⟨_, _, rfl⟩
  have hlok := leaveOk HV.out hx1 hx2 h5
  have HLE := Lib.hid hle
  have HLO : Hid (lb = true → ∃ (T : List (List Int)) (s : Nat), F = ⟨(L : Int), T⟩ ∧ SmallII T ∧ s ≤ 32 ∧ countModels ⟨(L : Int), T⟩ = (((2 * s : Nat) : Int), true) ∧ countOn ⟨(L : Int), cs⟩ (others L x) = ((s : Int), true)) := by
    intro hlb
    rcases hlok with h | ⟨T, s, g1, g2, g3, g4, g5⟩
    · rw [hle, hlb] at h; cases h
    · rw [hle] at g1; exact ⟨T, s, congrArg Prod.fst g1, g2, g3, g4, g5⟩
  have he0 := emptySlice w
  obtain ⟨W, hW⟩ : ∃ X, X = w.alloc (.cells #[] 2) := ⟨_, rfl⟩
  have HE0 : Hid (OwnI W w.heap.size W.heap.size (.slice (some ⟨w.heap.size, 0, none⟩) 0 0) []) := by rw [hW]; exact he0.mono (Nat.le_refl _) (by simp) (Nat.le_refl _)
  have HBW : Hid (Below w.heap.size w W) := by rw [hW]; exact alloc_below _ _
  clear hAT ha hx hxr he0 hle hlok
  go_wp2_with fail
  refine HAT.out.mono ?_
  rintro e w' ⟨rfl, rfl⟩
  go_wp2_with fail
  conv => arg 2; whnf
  go_wp2_with fail
  rw [← hW]
  clear hW
  go_loopw [13, 14] (fun av xv wr => ∃ k : Nat, k ≤ L ∧ xv = .int .i64 ((k + 1 : Nat)) ∧ OwnI wr w.heap.size wr.heap.size av (chosen (notX x) k) ∧ Below w.heap.size w wr) (fun _ xv _ => L + 1 - (intOf xv).toNat)
  case atStart => exact ⟨0, Nat.zero_le _, rfl, HE0.out, HBW.out⟩
  case round =>
    obtain ⟨av, hav⟩ : ∃ v, v = u13 := ⟨_, rfl⟩
    rw [← hav] at hrel
    rw [← hav]
    clear hav
    obtain ⟨k, hk, rfl, hoa, hbr⟩ := hrel
    have HA := Lib.hid hoa
    have HBR := Lib.hid hbr
    have hsr : w.heap.size ≤ wr.heap.size := hbr.size
    have hla := chosen_len (notX x) k
    have q0 := (HK.out wr hbr).c0
    have q1 := (HK.out wr hbr).c1
    clear hoa hbr
    by_cases hlt : k < L
    · have hcs := chosen_succ (notX x) k
      by_cases hkx : k + 1 = x
      · have HCS : Hid (chosen (notX x) (k + 1) = chosen (notX x) k) := by rw [Hid, hcs, if_neg (by simp [notX, hkx])]
        have g1 : (((k + 1 : Nat) : Int) != (x : Int)) = false := by simp; omega
        have g2 : (((k : Int) + 1) != (x : Int)) = false := by simp; omega
        have HKX := Lib.hid hkx
        clear hcs hkx
        go_wp2_with fail
        go_roundw
        case rel => exact ⟨k + 1, by omega, by go_num, by rw [HCS.out]; exact HA.out, HBR.out⟩
        case measure => simp [intOf]; omega
      · have HCS : Hid (chosen (notX x) (k + 1) = chosen (notX x) k ++ [((k + 1 : Nat) : Int)]) := by rw [Hid, hcs, if_pos (by simp [notX, hkx])]
        have g1 : (((k + 1 : Nat) : Int) != (x : Int)) = true := by simp; omega
        have g2 : (((k : Int) + 1) != (x : Int)) = true := by simp; omega
        clear hcs
        go_wp2_with (at_builtin; refine wpList_app1 rfl _ _ rfl _ (chosen (notX x) k) rfl ((k + 1 : Nat) : Int) _ HA.out rfl (by constructor <;> omega) (by omega) hsr ?_)
        intro v6 w6 ho6 hsm6 hz6 hbk6
        have HA6 := Lib.hid ho6
        have HB6 := Lib.hid (HBR.out.trans (hsm6.below (Nat.le_refl _) hsr))
        clear ho6 hsm6 hz6 hbk6
        go_wp2
        go_roundw
        case rel => exact ⟨k + 1, by omega, by go_num, by rw [HCS.out]; exact HA6.out, HB6.out⟩
        case measure => simp [intOf]; omega
    · obtain rfl : L = k := by omega
      have hol : (others L x).length ≤ 1048576 := by
        have := chosen_len (notX x) L
        show (chosen (notX x) L).length ≤ _
        omega
      have HOT : Hid (OwnI wr w.heap.size wr.heap.size av (others L x)) := HA.out
      have kx : I64 (x : Int) := by constructor <;> omega
      go_wp2_with fail
      refine (specLeaveLetter_any wr _ ⟨(L : Int), cs⟩ (x : Int) (HF.out wr HBR.out) (Nat.le_refl _) HSM.out kx).mono ?_
      rintro e w2 ⟨r, he, hr, hb2⟩
      rw [HLE.out] at he hr
      subst he
      simp only at hr
      obtain ⟨u, rfl, hu⟩ := hr.ex
      obtain ⟨ua, uc, rfl⟩ := hu.shape
      have kF : I64 F.letters := hr.rng
      obtain ⟨fl, hfl⟩ : ∃ n, n = F.clauses.length := ⟨_, rfl⟩
      rw [← hfl] at hu
      obtain ⟨W2, hW2⟩ : ∃ X, X = w2.alloc (.cells #[.int .i64 F.letters, .slice ua fl uc] 26) := ⟨_, rfl⟩
      obtain ⟨b1, hb1'⟩ : ∃ b, b = w2.heap.size := ⟨_, rfl⟩
      have hbt1 : TwoC W2 b1 26 (.int .i64 F.letters) (.slice ua fl uc) := by rw [hW2, hb1']; exact TwoC.new _ _ _ _
      have hbW2 : Below w2.heap.size w2 W2 := by rw [hW2]; exact alloc_below _ _
      have hz2 : wr.heap.size ≤ w2.heap.size := hb2.size
      have HB2 := Lib.hid (HBR.out.trans ((hb2.trans (hbW2.mono hz2)).mono hsr))
      have HO2 := Lib.hid (HOT.out.below (hb2.trans (hbW2.mono hz2)) (Nat.le_refl _))
      have HU2 := Lib.hid ((hu.below hbW2 (Nat.le_refl _)).rd.mono (Nat.zero_le _) hbW2.size (Nat.le_refl _))
      have HT1 := Lib.hid hbt1
      have q0 := (HK.out W2 HB2.out).c0
      have q1 := (HK.out W2 HB2.out).c1
      have hrW : wr.heap.size ≤ W2.heap.size := by have := hbW2.size; omega
      have HFL := Lib.hid hfl
      rw [← hfl]
      clear hr hu hb2 hbW2 hbt1 hfl
      go_upto_region 19 with (fail)
      rw [← hW2, ← hb1']
      clear hW2 hb1'
      go_wp2_with fail
      refine (implLeaveLetter_any W2 _ ⟨(L : Int), cs⟩ (x : Int) (HF.out W2 HB2.out) (Nat.le_refl _) HSM.out kx).mono ?_
      rintro e w3 ⟨r, he, hr, hb3⟩
      rw [HLE.out] at he hr
      subst he
      simp only at hr
      obtain ⟨u, rfl, hu⟩ := hr.ex
      obtain ⟨ta, tc, rfl⟩ := hu.shape
      rw [← HFL.out] at hu
      obtain ⟨W3, hW3⟩ : ∃ X, X = w3.alloc (.cells #[.int .i64 F.letters, .slice ta fl tc] 26) := ⟨_, rfl⟩
      obtain ⟨b2, hb2'⟩ : ∃ b, b = w3.heap.size := ⟨_, rfl⟩
      have hbt2 : TwoC W3 b2 26 (.int .i64 F.letters) (.slice ta fl tc) := by rw [hW3, hb2']; exact TwoC.new _ _ _ _
      have hbW3 : Below w3.heap.size w3 W3 := by rw [hW3]; exact alloc_below _ _
      have hz3 : W2.heap.size ≤ w3.heap.size := hb3.size
      have hb23 := hb3.trans (hbW3.mono hz3)
      have HB3 := Lib.hid (HB2.out.trans (hb23.mono HB2.out.size))
      have HO3 := Lib.hid (HO2.out.below hb23 hrW)
      have HU3 := Lib.hid ((HU2.out.below hb23 (Nat.le_refl _)).mono (Nat.le_refl _) hb23.size (Nat.le_refl _))
      have HT1b := Lib.hid (HT1.out.below hb23 HT1.out.lt)
      have HV3 := Lib.hid ((hu.below hbW3 (Nat.le_refl _)).rd.mono (Nat.zero_le _) hbW3.size (Nat.le_refl _))
      have HT2 := Lib.hid hbt2
      have q0 := (HK.out W3 HB3.out).c0
      have q1 := (HK.out W3 HB3.out).c1
      have hrW3 : wr.heap.size ≤ W3.heap.size := by have := hb23.size; omega
      rw [← HFL.out]
      clear hr hu hb3 hbW3 hbt2 hb23
      go_upto_region 20 with (fail)
      rw [← hW3, ← hb2']
      clear hW3 hb2'
      cases lb
      · go_upto_region 27 with (fail)
        exact join_part (by assumption) (clauses3 w0 W3 (HB.out.trans (HB3.out.mono hs0)) HY0.out HY1.out (HK.out W3 HB3.out) ((HI.out W3 HB3.out).mono (Nat.le_refl _) HB3.out.size (Nat.le_refl _)) HV.out h9 H3.out h5 hx1 hx2)
      · obtain ⟨T, s, rfl, hT1, hT2, hT3, hT4⟩ := HLO.out rfl
        simp only at HFL
        have HT3 := Lib.hid hT3
        have HT4 := Lib.hid hT4
        have HTS := Lib.hid hT1
        clear hT1 hT3 hT4
        go_wp2_with fail
        refine (specCountOn_any W3 _ ⟨(L : Int), cs⟩ av (others L x) (HF.out W3 HB3.out) (Nat.le_refl _) HSM.out HO3.out.rd hrW3 hol).mono ?_
        rintro e w4 ⟨he, hb4⟩
        rw [HT4.out] at he
        subst he
        have HB4 := Lib.hid (HB3.out.trans (hb4.mono HB3.out.size))
        have HT2c := Lib.hid (HT2.out.below hb4 HT2.out.lt)
        have HT1c := Lib.hid (HT1b.out.below hb4 HT1b.out.lt)
        have HU4 := Lib.hid ((HU3.out.below hb4 (Nat.le_refl _)).mono (Nat.le_refl _) hb4.size (Nat.le_refl _))
        have HV4 := Lib.hid ((HV3.out.below hb4 (Nat.le_refl _)).mono (Nat.le_refl _) hb4.size (Nat.le_refl _))
        have p0 := HT2c.out.c0
        have p1 := HT2c.out.c1
        clear hb4
        go_wp2_with fail
        refine (specCountModels_any w4 (.agg #[.int .i64 (L : Int), .slice ta fl tc]) ⟨(L : Int), T⟩ ⟨⟨_, rfl, HV4.out⟩, kL⟩ (Nat.le_refl _) HTS.out).mono ?_
        rintro e w5 ⟨he, hb5⟩
        rw [HT3.out] at he
        subst he
        have HB5 := Lib.hid (HB4.out.trans (hb5.mono HB4.out.size))
        have HT2d := Lib.hid (HT2c.out.below hb5 HT2c.out.lt)
        have HT1d := Lib.hid (HT1c.out.below hb5 HT1c.out.lt)
        have HU5 := Lib.hid ((HU4.out.below hb5 (Nat.le_refl _)).mono (Nat.le_refl _) hb5.size (Nat.le_refl _))
        have HV5 := Lib.hid ((HV4.out.below hb5 (Nat.le_refl _)).mono (Nat.le_refl _) hb5.size (Nat.le_refl _))
        have p0 := HT2d.out.c0
        have p1 := HT2d.out.c1
        have r0 := HT1d.out.c0
        have r1 := HT1d.out.c1
        obtain ⟨m2, hm2⟩ : ∃ m2 : Int, m2 = ((2 * s : Nat) : Int) := ⟨_, rfl⟩
        obtain ⟨s1, hs1⟩ : ∃ s1 : Int, s1 = (s : Int) := ⟨_, rfl⟩
        have hmm : m2 = 2 * s1 := by rw [hm2, hs1]; omega
        have hsr1 : 0 ≤ s1 ∧ s1 ≤ 32 := by omega
        have hw2 : IntKind.i64.wrap (2 * s1) = 2 * s1 := IntWalk.i64_in _ (by omega)
        rw [← hm2, ← hs1]
        clear hm2 hs1 hb5
        subst hmm
        go_wp2_with fail
        refine (specSameForm_any w5 (.agg #[.int .i64 (L : Int), .slice ta fl tc]) ⟨(L : Int), T⟩ (.agg #[.int .i64 (L : Int), .slice ua fl uc]) ⟨(L : Int), T⟩ ⟨⟨_, rfl, HV5.out⟩, kL⟩ (Nat.le_refl _) HTS.out ⟨⟨_, rfl, HU5.out⟩, kL⟩ (Nat.le_refl _) HTS.out).mono ?_
        rintro e w6 ⟨he, hb6⟩
        rw [sameForm_selfC] at he
        subst he
        have HB6 := Lib.hid (HB5.out.trans (hb6.mono HB5.out.size))
        clear hb6
        go_upto_region 27 with (fail)
        exact join_part (by assumption) (clauses3 w0 w6 (HB.out.trans (HB6.out.mono hs0)) HY0.out HY1.out (HK.out w6 HB6.out) ((HI.out w6 HB6.out).mono (Nat.le_refl _) HB6.out.size (Nat.le_refl _)) HV.out h9 H3.out h5 hx1 hx2)
end Go.Proofs.Ytcpbgjnijhcpkaa

namespace Go.Proofs.Ytcpbgjnijhcpkaa
open Go.ChangeShapes Go.WideShapes Go.ChangeAt Go.RowKit
set_option linter.unusedVariables false
set_option maxRecDepth 100000

set_option maxHeartbeats 8000000 in
set_option maxRecDepth 100000 in
theorem FnClauses_walk (w : World) (v0 : Value) (z0 : List Int) (k0 : Byts w 0 w.heap.size v0 z0) (v1 : Value) (z1 : List Int) (k1 : Byts w 0 w.heap.size v1 z1) :
    Calls Try.prog 6 #[v0, v1] w fun e w' => e = .returned (.bool true) ∧ Below w.heap.size w w' := by
  have HLG := Lib.hid (b10Long_any v0 v1 z0 z1 w k0 k1)
  have HFM := Lib.hid (b10Form_any v0 z0 w k0 (Nat.le_refl _))
  have K0 := Lib.hid k0
  have K1 := Lib.hid k1
  clear k0 k1
  cases hlong : longF z0 z1
  rotate_left
  · rw [hlong] at HLG
    go_enter Try.func6, Try.ntmps6
    go_wp2_with fail
    refine HLG.out.mono ?_
    rintro e w' ⟨rfl, rfl⟩
    go_wp2
    go_ret
    exact ⟨rfl, Below.refl _ _⟩
  rw [hlong] at HLG
  clear hlong
  go_enter Try.func6, Try.ntmps6
  go_wp2_with fail
  refine HLG.out.mono ?_
  rintro e w' ⟨rfl, rfl⟩
  go_wp2_with fail
  refine HFM.out.mono ?_
  rintro e w1 ⟨u, ⟨Lz, cs⟩, rfl, hf, hdf, hb1⟩
  obtain ⟨hval, hL1, hL5, hC9, hC3⟩ := hdf
  simp only at hL1 hL5 hC9 hC3
  obtain ⟨L, rfl⟩ : ∃ L : Nat, Lz = (L : Int) := ⟨Lz.toNat, by omega⟩
  have hl1 : 1 ≤ L := by omega
  have hl5 : L ≤ 5 := by omega
  obtain ⟨u, rfl, hu⟩ := hf.ex
  obtain ⟨fa, fc, rfl⟩ := hu.shape
  simp only at hu
  have hwz : w.heap.size ≤ w1.heap.size := hb1.size
  obtain ⟨W, hW⟩ : ∃ X, X = w1.alloc (.cells #[.int .i64 L, .slice fa cs.length fc] 26) := ⟨_, rfl⟩
  obtain ⟨b, hbb⟩ : ∃ b, b = w1.heap.size := ⟨_, rfl⟩
  have hbx : TwoC W b 26 (.int .i64 L) (.slice fa cs.length fc) := by rw [hW, hbb]; exact TwoC.new _ _ _ _
  have hbW : Below w1.heap.size w1 W := by rw [hW]; exact alloc_below _ _
  have hcsW : Intss W 0 W.heap.size (.slice fa cs.length fc) cs := ((hu.below hbW (Nat.le_refl _)).rd).mono (Nat.zero_le _) hbW.size (Nat.le_refl _)
  have HBW := Lib.hid (hb1.trans (hbW.mono hwz))
  have hwW : w.heap.size ≤ W.heap.size := HBW.out.size
  have hbl := hbx.lt
  have kL : I64 (L : Int) := by constructor <;> omega
  have HK : Hid (∀ wx, Below W.heap.size W wx → TwoC wx b 26 (.int .i64 L) (.slice fa cs.length fc)) := fun wx hx => hbx.below hx hbl
  have HI : Hid (∀ wx, Below W.heap.size W wx → Intss wx 0 wx.heap.size (.slice fa cs.length fc) cs) := fun wx hx => (hcsW.below hx (Nat.le_refl _)).mono (Nat.zero_le _) hx.size (Nat.le_refl _)
  have HF : Hid (∀ wx, Below W.heap.size W wx → FormR wx 0 wx.heap.size (.agg #[.int .i64 L, .slice fa cs.length fc]) ⟨L, cs⟩) := fun wx hx => ⟨⟨_, rfl, HI.out wx hx⟩, kL⟩
  have HSM : Hid (SmallII cs) := small_few (n := 9) hC9 (by decide) hC3
  have HV := Lib.hid hval
  have H3 := Lib.hid hC3
  have h9 : cs.length ≤ 9 := hC9
  obtain ⟨T, hT⟩ := thinOk hval hC9 hC3
  have HT := Lib.hid hT
  have HCV := Lib.hid (count_val hval)
  obtain ⟨cN, hcN⟩ : ∃ cN, cN = countN L cs (2 ^ L) := ⟨_, rfl⟩
  rw [← hcN] at HCV
  have HCN := Lib.hid hcN
  have q0 := hbx.c0
  have q1 := hbx.c1
  clear hval hf hu hbW hcsW hb1 hT hcN hL1 hL5 hC9 hC3 hbx
  go_upto_region 4 with (fail)
  rw [← hW, ← hbb]
  clear hW hbb
  go_wp2_with fail
  refine (specCountModels_any W _ ⟨(L : Int), cs⟩ (HF.out W (Below.refl _ _)) (Nat.le_refl _) HSM.out).mono ?_
  rintro e w2 ⟨he, hb2⟩
  rw [HCV.out] at he
  subst he
  have HB2 := Lib.hid hb2
  have q0 := (HK.out w2 hb2).c0
  have q1 := (HK.out w2 hb2).c1
  clear hb2
  go_wp2_with fail
  refine (implThinForm_any w2 _ ⟨(L : Int), cs⟩ (HF.out w2 HB2.out) (Nat.le_refl _) HSM.out).mono ?_
  rintro e w3 ⟨r, he, hr, hb3⟩
  rw [HT.out.eq] at he hr
  subst he
  simp only at hr
  obtain ⟨u, rfl, hu⟩ := hr.ex
  obtain ⟨ta, tc, rfl⟩ := hu.shape
  simp only at hu
  obtain ⟨W3, hW3⟩ : ∃ X, X = w3.alloc (.cells #[.int .i64 L, .slice ta T.length tc] 26) := ⟨_, rfl⟩
  obtain ⟨b2, hb2'⟩ : ∃ b, b = w3.heap.size := ⟨_, rfl⟩
  have hbt2 : TwoC W3 b2 26 (.int .i64 L) (.slice ta T.length tc) := by rw [hW3, hb2']; exact TwoC.new _ _ _ _
  have hbW3 : Below w3.heap.size w3 W3 := by rw [hW3]; exact alloc_below _ _
  have hz3 : w2.heap.size ≤ w3.heap.size := hb3.size
  have HB3 := Lib.hid (HB2.out.trans ((hb3.trans (hbW3.mono hz3)).mono HB2.out.size))
  have HU3 := Lib.hid ((hu.below hbW3 (Nat.le_refl _)).rd.mono (Nat.zero_le _) hbW3.size (Nat.le_refl _))
  have HT2 := Lib.hid hbt2
  have q0 := (HK.out W3 HB3.out).c0
  have q1 := (HK.out W3 HB3.out).c1
  have p0 := hbt2.c0
  have p1 := hbt2.c1
  clear hr hu hb3 hbW3 hbt2
  go_upto_region 6 with (fail)
  rw [← hW3, ← hb2']
  clear hW3 hb2'
  go_wp2_with fail
  refine (specCountModels_any W3 (.agg #[.int .i64 (L : Int), .slice ta T.length tc]) ⟨(L : Int), T⟩ ⟨⟨_, rfl, HU3.out⟩, kL⟩ (Nat.le_refl _) HT.out.small).mono ?_
  rintro e w4 ⟨he, hb4⟩
  rw [HT.out.cnt, HCV.out] at he
  subst he
  have HB4 := Lib.hid (HB3.out.trans (hb4.mono HB3.out.size))
  have q0 := (HK.out w4 HB4.out).c0
  have q1 := (HK.out w4 HB4.out).c1
  have p0 := (HT2.out.below hb4 HT2.out.lt).c0
  have p1 := (HT2.out.below hb4 HT2.out.lt).c1
  have hle := HT.out.len
  have g1 : ¬ cs.length < T.length := by omega
  have g2 : ¬ (cs.length : Int) < (T.length : Int) := by omega
  have g3 : decide ((cs.length : Int) < (T.length : Int)) = false := decide_eq_false g2
  clear hb4
  rw [HCN.out]
  go_upto_region 11 with (fail)
  exact join_part (by assumption) (clauses2 w w4 (HBW.out.trans (HB4.out.mono hwW)) K0.out K1.out (HK.out w4 HB4.out) (HI.out w4 HB4.out) HV.out h9 H3.out hl5)

set_option maxRecDepth 100000 in
theorem FnClauses_lifted (os : Os) (started : os.Started) (H : Type) (enc : TypeId × Value → H) :
    ReturnsInHanded {} Try.checked os 6 .any (Rows.fnClausesSpec.pre6 enc Try.prog Try.f6 Rows.fnClausesRow.domain false) (Rows.fnClausesSpec.post enc Try.prog Try.f6 false true false false) := by
  refine returnsInHanded_of_change (C := Try.checked) own_knob started (by kernel_rfl) Try.func6
    (ChangeSpec.witness6 (enc := enc) (C := Try.checked) false ⟨#[], #[.slice none 0 0, .slice none 0 0], []⟩ 8 (by kernel_rfl) (by kernel_rfl) (by kernel_rfl) (by kernel_rfl)) ?_
  intro W base args ds gs before hval0 hW hcnd _
  have hval : ∀ (j : Nat) t v, Try.f6.params[j]? = some t → args[j]? = some v → Value.okWide Try.prog W .any base t v := hval0
  have hW' := hW
  obtain ⟨p, q, hA0, hV, rfl, hfz, hnd⟩ := hW
  have hA : DataW.TrodAll enc Try.prog W 0 (fun _ => true) true Try.f6.params.toList args.toList ds p := hA0
  rw [Try.params6] at hA hval
  obtain ⟨v0, vs0, d0, ds0, p0, q0, hargs, rfl, rfl, h0, r0⟩ := trodAll_cons hA
  obtain ⟨v1, vs1, d1, ds1, p1, q1, rfl, rfl, rfl, h1, r1⟩ := trodAll_cons r0
  obtain ⟨rfl, rfl, rfl⟩ := trodAll_nil r1
  obtain rfl : args = #[v0, v1] := by cases args; simp_all
  obtain ⟨rfl, rfl⟩ := trodVars_none hV
  have lt0 : ∀ x ∈ p0, x.block < W.heap.size := by obtain ⟨m, hm⟩ := h0; exact DataW.trod_lt m _ _ _ hm
  obtain ⟨z0, k0⟩ := open_Y (hval 0 22 v0 rfl rfl) h0
  have lt1 : ∀ x ∈ p1, x.block < W.heap.size := by obtain ⟨m, hm⟩ := h1; exact DataW.trod_lt m _ _ _ hm
  obtain ⟨z1, k1⟩ := open_Y (hval 1 22 v1 rfl rfl) h1
  clear hA0 hval0
  refine (FnClauses_walk W v0 z0 k0 v1 z1 k1).mono fun e W' ⟨he, bel⟩ => ?_
  subst he
  exact ⟨_, rfl, _, _, _, [], _, [], hW', trodAll_mk1 (shut_bool Try.underlying4 _), (trodAll_cons_mk (Below.trod laid_out (by kernel_rfl) (of_decide_eq_true (by kernel_rfl)) h0 bel lt0) (trodAll_cons_mk (Below.trod laid_out (by kernel_rfl) (of_decide_eq_true (by kernel_rfl)) h1 bel lt1) trodAll_mk0)), rfl, bel.frame _, fun h => by cases h⟩

theorem FnClauses_over : Rows.fnClausesRow.holds Try.pinned (OpenSpec.ofChange Rows.fnClausesSpec) :=
  OpenClaim.holds_of_wide 6 Try.f6 rfl rfl rfl rfl rfl rfl rfl ⟨rfl, rfl, rfl, rfl, rfl⟩ rfl rfl rfl rfl rfl (by kernel_rfl) Try.func6 (by kernel_rfl)
    (of_decide_eq_true (by kernel_rfl)) (by unfold Func.isWrapper; first | (rw [if_pos (by decide +kernel)]; kernel_rfl) | (rw [if_neg (by decide +kernel)]; exact ⟨rfl, rfl⟩))
    (fun os started H enc _ => FnClauses_lifted os started H enc)

/-- The statement. -/
theorem FnClauses_proved : Rows.FnClausesSaid := FnClauses_over

end Go.Proofs.Ytcpbgjnijhcpkaa

