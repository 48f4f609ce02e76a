/-
  The law FnProofs returns true for all arguments, and writes nothing that was there.
  There are no conditions.
-/
import Derived.Test.YtcpbgjnijhcpkaaFpB
import Derived.Test.YtcpbgjnijhcpkaaProofR
import Derived.Test.YtcpbgjnijhcpkaaFpC
import Derived.Test.YtcpbgjnijhcpkaaAt
import Derived.Deep.DeepCutAuto
import Derived.BigQuiet
import Derived.Deep.RegionHeld3
import Derived.Deep.RegionLaw
import Derived.Test.YtcpbgjnijhcpkaaProofV
import Derived.Test.YtcpbgjnijhcpkaaFpA
namespace Go.Proofs.Ytcpbgjnijhcpkaa
open Go.ChangeShapes Go.WideShapes Go.ChangeAt Go.RowKit
set_option linter.unusedVariables false
set_option maxRecDepth 100000

def tlC : Nat → Code → Code
  | 0, c => c
  | n + 1, .seq _ b => tlC n b
  | _, c => c
def hdC : Code → Code
  | .seq a _ => a
  | c => c
theorem join_part {P : Program} {x y : Code} {Q : Exit → Act → World → Prop} {a : Act} {w : World} {K : Act → World → Prop} (hK : ∀ a w, Code.wp P y Q a w → K a w)
    (h : Code.wp P x (Exit.then (Code.wp P y Q) Q) a w) : Code.wp P x (Exit.then K Q) a w :=
  Code.wp_mono (fun e a w h => by cases e <;> first | exact hK _ _ h | exact h) h
noncomputable def bodyOf : Code := Try.f3.body.getD .skip
theorem valid_more {L : Nat} {c : List Int} {cs : List (List Int)} (hv : validForm ⟨(L : Int), cs⟩ = true) (hc : isClause (L : Int) c = true) (h9 : cs.length ≤ 9) : validForm ⟨(L : Int), cs ++ [c]⟩ = true := by
  obtain ⟨h1, h2, h3⟩ := validForm_bounds hv
  simp only at h1 h2 h3
  unfold validForm
  simp only
  have hin : inB 1 10 (L : Int) = true := by unfold inB; rw [decide_eq_true h1.1, decide_eq_true h1.2]; rfl
  rw [hin, decide_eq_true (show (cs ++ [c]).length ≤ 48 by simp; omega), List.all_append, List.all_eq_true.2 h3]
  simp [hc]
set_option maxHeartbeats 4000000 in
set_option maxRecDepth 100000 in
theorem proofsL (w0 w : World) {u2 u3 u4 u7 u8 u9 u10 u11 u12 u13 u14 u15 u16 u17 u18 u19 u21 u22 u23 u24 u25 u26 u27 u28 u29 u30 u31 u32 u33 u34 u35 u36 u37 u38 u39 u40 u41 u42 u43 u44 u45 u46 u47 u48 u49 u50 u51 u52 u53 u54 u55 u56 u57 u58 u59 u60 u61 u62 u63 u64 u65 u66 u67 u68 u69 u70 u71 u72 u73 u74 u75 u76 u77 u78 u79 u80 u81 u82 u83 u84 u85 u86 u87 u88 u89 u90 u91 u92 u93 u94 u95 u96 u97 u98 u99 u100 u101 u102 u103 u104 u105 u106 u107 u108 u109 u110 u111 u112 u113 u114 u115 u116 u117 u118 u119 u120 u121 u122 u123 u124 u125 u126 u127 u128 u129 u130 u131 u132 u133 u134 u135 u136 u137 u138 u139 u140 u141 u142 u143 u144 u145 u146 u147 u148 u149 u150 u151 u152 u153 u154 u155 u156 u157 u158 u159 u160 u161 u162 u163 u164 u165 u166 u167 u168 u169 u170 u171 u172 u173 u174 u175 u176 u177 u178 u179 u180 u181 u182 u183 u184 u185 u186 u187 u188 u189 u190 u191 u192 u193 u194 u195 u196 u197 u198 u199 u200 u201 u202 u203 u204 u205 u206 u207 u208 u209 u210 u211 u212 u213 u214 u215 u216 u217 u218 u219 u220 u221 u222 u223 u224 u225 u226 u227 u228 u229 u230 u231 u232 u233 u234 u235 u236 u237 u238 u239 u240 u241 u242 u243 u244 u245 u246 u247 u248 u249 u250 u251 u252 u253 u254 u255 u256 u257 u258 u259 u260 u261 u262 u263 u264 : Value} {v0 v1 : Value} {z0 z1 : List Int} (hB : Below w0.heap.size w0 w) (h0 : Byts w0 0 w0.heap.size v0 z0) (h1 : Byts w0 0 w0.heap.size v1 z1) {b L : Nat} {cs : List (List Int)} {fa : Option Addr} {fc : Nat} (hbx : TwoC w b 26 (.int .i64 (L : Int)) (.slice fa cs.length fc)) (hcs : Intss w 0 w.heap.size (.slice fa cs.length fc) cs) (hval : validForm ⟨(L : Int), cs⟩ = true) (h9 : cs.length ≤ 9) (h3 : ∀ c ∈ cs, c.length ≤ 3) (h5 : L ≤ 5) {gv : Value} {gs : List Int} (hg : Ints w 0 w.heap.size gv gs) (hgl : gs.length ≤ 1048576) :
    Code.wp Try.prog (hdC (tlC 13 bodyOf)) (Exit.then (Code.wp Try.prog (tlC 14 bodyOf) (bodyPost Try.prog Try.f3 fun e w' => e = .returned (.bool true) ∧ Below w0.heap.size w0 w')) (bodyPost Try.prog Try.f3 fun e w' => e = .returned (.bool true) ∧ Below w0.heap.size w0 w')) ⟨#[v0, v1, u2, u3, u4, (.pointer (some ⟨b, 0, none⟩)), (.int .i64 ((countN L cs (2 ^ L) : Nat) : Int)), u7, u8, u9, u10, u11, u12, u13, u14, u15, u16, u17, u18, u19, gv, u21, u22, u23, u24, u25, u26, u27, u28, u29, u30, u31, u32, u33, u34, u35, u36, u37, u38, u39, u40, u41, u42, u43, u44, u45, u46, u47, u48, u49, u50, u51, u52, u53, u54, u55, u56, u57, u58, u59, u60, u61, u62, u63, u64, u65, u66, u67, u68, u69, u70, u71, u72, u73, u74, u75, u76, u77, u78, u79, u80, u81, u82, u83, u84, u85, u86, u87, u88, u89, u90, u91, u92, u93, u94, u95, u96, u97, u98, u99, u100, u101, u102, u103, u104, u105, u106, u107, u108, u109, u110, u111, u112, u113, u114, u115, u116, u117, u118, u119, u120, u121, u122, u123, u124, u125, u126, u127, u128, u129, u130, u131, u132, u133, u134, u135, u136, u137, u138, u139, u140, u141, u142, u143, u144, u145, u146, u147, u148, u149, u150, u151, u152, u153, u154, u155, u156, u157, u158, u159, u160, u161, u162, u163, u164, u165, u166, u167, u168, u169, u170, u171, u172, u173, u174, u175, u176, u177, u178, u179, u180, u181, u182, u183, u184, u185, u186, u187, u188, u189, u190, u191, u192, u193, u194, u195, u196, u197, u198, u199, u200, u201, u202, u203, u204, u205, u206, u207, u208, u209, u210, u211, u212, u213, u214, u215, u216, u217, u218, u219, u220, u221, u222, u223, u224, u225, u226, u227, u228, u229, u230, u231, u232, u233, u234, u235, u236, u237, u238, u239, u240, u241, u242, u243, u244, u245, u246, u247, u248, u249, u250, u251, u252, u253, u254, u255, u256, u257, u258, u259, u260, u261, u262, u263, u264], []⟩ w := by
  conv => arg 2; whnf
  have hs0 : w0.heap.size ≤ w.heap.size := hB.size
  have hbl := hbx.lt
  have hL1 : 1 ≤ L := by have := (validForm_bounds hval).1; simp only at this; omega
  have kL : I64 (L : Int) := by constructor <;> omega
  have HSM : Hid (SmallII cs) := small_few (n := 9) h9 (by decide) h3
  have HK : Hid (∀ wx, Below w.heap.size w wx → TwoC wx b 26 (.int .i64 L) (.slice fa cs.length fc)) := fun wx hx => hbx.below hx hbl
  have HI : Hid (∀ wx, Below w.heap.size w wx → Intss wx 0 w.heap.size (.slice fa cs.length fc) cs) := fun wx hx => hcs.below hx (Nat.le_refl _)
  have HF : Hid (∀ wx, Below w.heap.size w wx → FormR wx 0 wx.heap.size (.agg #[.int .i64 L, .slice fa cs.length fc]) ⟨L, cs⟩) := fun wx hx => ⟨⟨_, rfl, (HI.out wx hx).mono (Nat.le_refl _) hx.size (Nat.le_refl _)⟩, kL⟩
  have HB := Lib.hid hB
  have HY0 := Lib.hid h0
  have HY1 := Lib.hid h1
  have HV := Lib.hid hval
  have H3 := Lib.hid h3
  have q0 := hbx.c0
  have q1 := hbx.c1
  clear h0 h1 hB hbx hcs h3 hval
  obtain ⟨ln, lb, hle⟩ : ∃ ln lb, learnF ⟨(L : Int), cs⟩ gs = (ln, lb) := ⟨_, _, rfl⟩
  have HLE := Lib.hid hle
  have HLF : Hid (lb = true → isClause (L : Int) ln = true ∧ ln.length ≤ 10 ∧ countN L (cs ++ [ln]) (2 ^ L) = countN L cs (2 ^ L)) := by
    intro h
    have := learn_facts (f := ⟨(L : Int), cs⟩) (L := L) (g := gs) HV.out rfl (by rw [hle]; exact h)
    rw [hle] at this
    exact this
  have HG := Lib.hid hg
  clear hle hg
  go_wp2_with fail
  refine (implLearnFrom_any w _ ⟨(L : Int), cs⟩ gv gs (HF.out w (Below.refl _ _)) (Nat.le_refl _) HSM.out HG.out (Nat.le_refl _) hgl).mono ?_
  rintro e w2 ⟨r, he, hr, hb2⟩
  rw [HLE.out] at he hr
  subst he
  simp only at hr
  have HR := Lib.hid hr
  have HB2 := Lib.hid hb2
  have hz2 : w.heap.size ≤ w2.heap.size := hb2.size
  obtain ⟨ra, rc, hre⟩ := hr.shape2
  obtain ⟨ll, hll⟩ : ∃ n, n = ln.length := ⟨_, rfl⟩
  rw [← hll] at hre
  have HLL := Lib.hid hll
  subst hre
  have q0 := (HK.out w2 hb2).c0
  have q1 := (HK.out w2 hb2).c1
  clear hr hb2 hll
  go_wp2_with fail
  conv => arg 2; whnf
  go_wp2_with fail
  refine (specLearnFrom_any w2 _ ⟨(L : Int), cs⟩ gv gs (HF.out w2 HB2.out) (Nat.le_refl _) HSM.out (HG.out.below HB2.out (Nat.le_refl _)) hz2 hgl).mono ?_
  rintro e w3 ⟨r2, he, hr2, hb3⟩
  rw [HLE.out] at he hr2
  subst he
  simp only at hr2
  have HR3 := Lib.hid (HR.out.below hb3 (Nat.le_refl _))
  have HR2 := Lib.hid hr2
  have HB3 := Lib.hid (HB2.out.trans (hb3.mono hz2))
  have hz3 : w2.heap.size ≤ w3.heap.size := hb3.size
  have q0 := (HK.out w3 HB3.out).c0
  have q1 := (HK.out w3 HB3.out).c1
  clear hr2 hb3
  cases lb
  · go_wp2_with fail
    go_ret
    exact ⟨rfl, HB.out.trans (HB3.out.mono hs0)⟩
  · obtain ⟨g1, g2, g3⟩ := HLF.out rfl
    have HCL := Lib.hid g1
    have HCN := Lib.hid g3
    have hl10 : ln.length ≤ 10 := g2
    clear g1 g3
    go_wp2_with fail
    refine (b10Ints_any _ _ ln ln w3 HR3.out.rd HR2.out.rd).mono ?_
    rintro e w4 ⟨he, hd4⟩
    obtain rfl : e = Ending.returned (Value.bool true) := by rw [he]; simp
    have HB4 := Lib.hid (HB3.out.trans (hd4.below _))
    have HR4 := Lib.hid (HR3.out.drew hd4)
    have hz4 : w3.heap.size ≤ w4.heap.size := by rw [hd4.heap]; exact Nat.le_refl _
    have q0 := (HK.out w4 HB4.out).c0
    have q1 := (HK.out w4 HB4.out).c1
    clear he hd4
    go_wp2_with fail
    refine (implIsClause_any w4 (L : Int) _ ln kL HR4.out.rd (by omega) (by omega)).mono ?_
    rintro e w5 ⟨he, hb5⟩
    rw [HCL.out] at he
    subst he
    have HB5 := Lib.hid (HB4.out.trans (hb5.mono HB4.out.size))
    have HR5 := Lib.hid ((HR4.out.below hb5 (by omega)).rd.mono (Nat.zero_le _) (by have := hb5.size; omega) (Nat.le_refl _))
    have q0 := (HK.out w5 HB5.out).c0
    have q1 := (HK.out w5 HB5.out).c1
    clear hb5
    go_wp2_with fail
    refine reg52 w5 (HK.out w5 HB5.out) ((HI.out w5 HB5.out).mono (Nat.le_refl _) HB5.out.size (Nat.le_refl _)) h9 HR5.out _ _ ?_
    intro zp va vc w6 t244 t245 t246 t247 t248 t249 t250 t251 t252 t253 hz hc3 hb6
    have HC3 := Lib.hid hc3
    have HB6 := Lib.hid (HB5.out.trans (hb6.mono HB5.out.size))
    have z0' := hz.c0
    have z1' := hz.c1
    have hls : Hid (SmallII (cs ++ [ln])) := by
      refine ⟨by simp; omega, ?_⟩
      have h27 := sum_le H3.out
      rw [List.map_append, List.sum_append]
      simp
      omega
    have hlen1 : Hid ((cs ++ [ln]).length = cs.length + 1) := by simp [Hid]
    have hvl : Hid (countModels ⟨(L : Int), cs ++ [ln]⟩ = (((countN L cs (2 ^ L) : Nat) : Int), true)) := by
      rw [Hid, count_val (valid_more HV.out HCL.out h9), HCN.out]
    clear hz hc3 hb6
    go_wp2_with fail
    refine (specCountModels_any w6 _ ⟨(L : Int), cs ++ [ln]⟩ ⟨⟨_, rfl, HC3.out⟩, kL⟩ (Nat.le_refl _) hls.out).mono ?_
    rintro e w7 ⟨he, hb7⟩
    rw [hvl.out] at he
    subst he
    have HB7 := Lib.hid (HB6.out.trans (hb7.mono HB6.out.size))
    clear hb7
    go_wp2_with fail
    go_ret
    exact ⟨by simp, HB.out.trans (HB7.out.mono hs0)⟩
end Go.Proofs.Ytcpbgjnijhcpkaa

namespace Go.Proofs.Ytcpbgjnijhcpkaa
open Go.ChangeShapes Go.WideShapes Go.ChangeAt Go.RowKit
set_option linter.unusedVariables false
set_option maxRecDepth 100000

set_option maxHeartbeats 4000000 in
set_option maxRecDepth 100000 in
theorem proofsM (w0 w : World) {u2 u3 u4 u7 u8 u9 u10 u11 u12 u13 u14 u15 u16 u17 u18 u19 u20 u21 u22 u23 u24 u25 u26 u27 u28 u29 u30 u31 u32 u33 u34 u35 u36 u37 u38 u39 u40 u41 u42 u43 u44 u45 u46 u47 u48 u49 u50 u51 u52 u53 u54 u55 u56 u57 u58 u59 u60 u61 u62 u63 u64 u65 u66 u67 u68 u69 u70 u71 u72 u73 u74 u75 u76 u77 u78 u79 u80 u81 u82 u83 u84 u85 u86 u87 u88 u89 u90 u91 u92 u93 u94 u95 u96 u97 u98 u99 u100 u101 u102 u103 u104 u105 u106 u107 u108 u109 u110 u111 u112 u113 u114 u115 u116 u117 u118 u119 u120 u121 u122 u123 u124 u125 u126 u127 u128 u129 u130 u131 u132 u133 u134 u135 u136 u137 u138 u139 u140 u141 u142 u143 u144 u145 u146 u147 u148 u149 u150 u151 u152 u153 u154 u155 u156 u157 u158 u159 u160 u161 u162 u163 u164 u165 u166 u167 u168 u169 u170 u171 u172 u173 u174 u175 u176 u177 u178 u179 u180 u181 u182 u183 u184 u185 u186 u187 u188 u189 u190 u191 u192 u193 u194 u195 u196 u197 u198 u199 u200 u201 u202 u203 u204 u205 u206 u207 u208 u209 u210 u211 u212 u213 u214 u215 u216 u217 u218 u219 u220 u221 u222 u223 u224 u225 u226 u227 u228 u229 u230 u231 u232 u233 u234 u235 u236 u237 u238 u239 u240 u241 u242 u243 u244 u245 u246 u247 u248 u249 u250 u251 u252 u253 u254 u255 u256 u257 u258 u259 u260 u261 u262 u263 u264 : Value} {v0 v1 : Value} {z0 z1 : List Int} (hB : Below w0.heap.size w0 w) (h0 : Byts w0 0 w0.heap.size v0 z0) (h1 : Byts w0 0 w0.heap.size v1 z1) {b L : Nat} {cs : List (List Int)} {fa : Option Addr} {fc : Nat} (hbx : TwoC w b 26 (.int .i64 (L : Int)) (.slice fa cs.length fc)) (hcs : Intss w 0 w.heap.size (.slice fa cs.length fc) cs) (hval : validForm ⟨(L : Int), cs⟩ = true) (h9 : cs.length ≤ 9) (h3 : ∀ c ∈ cs, c.length ≤ 3) (h5 : L ≤ 5) :
    Code.wp Try.prog (hdC (tlC 11 bodyOf)) (Exit.then (Code.wp Try.prog (tlC 12 bodyOf) (bodyPost Try.prog Try.f3 fun e w' => e = .returned (.bool true) ∧ Below w0.heap.size w0 w')) (bodyPost Try.prog Try.f3 fun e w' => e = .returned (.bool true) ∧ Below w0.heap.size w0 w')) ⟨#[v0, v1, u2, u3, u4, (.pointer (some ⟨b, 0, none⟩)), (.int .i64 ((countN L cs (2 ^ L) : Nat) : Int)), u7, u8, u9, u10, u11, u12, u13, u14, u15, u16, u17, u18, u19, u20, u21, u22, u23, u24, u25, u26, u27, u28, u29, u30, u31, u32, u33, u34, u35, u36, u37, u38, u39, u40, u41, u42, u43, u44, u45, u46, u47, u48, u49, u50, u51, u52, u53, u54, u55, u56, u57, u58, u59, u60, u61, u62, u63, u64, u65, u66, u67, u68, u69, u70, u71, u72, u73, u74, u75, u76, u77, u78, u79, u80, u81, u82, u83, u84, u85, u86, u87, u88, u89, u90, u91, u92, u93, u94, u95, u96, u97, u98, u99, u100, u101, u102, u103, u104, u105, u106, u107, u108, u109, u110, u111, u112, u113, u114, u115, u116, u117, u118, u119, u120, u121, u122, u123, u124, u125, u126, u127, u128, u129, u130, u131, u132, u133, u134, u135, u136, u137, u138, u139, u140, u141, u142, u143, u144, u145, u146, u147, u148, u149, u150, u151, u152, u153, u154, u155, u156, u157, u158, u159, u160, u161, u162, u163, u164, u165, u166, u167, u168, u169, u170, u171, u172, u173, u174, u175, u176, u177, u178, u179, u180, u181, u182, u183, u184, u185, u186, u187, u188, u189, u190, u191, u192, u193, u194, u195, u196, u197, u198, u199, u200, u201, u202, u203, u204, u205, u206, u207, u208, u209, u210, u211, u212, u213, u214, u215, u216, u217, u218, u219, u220, u221, u222, u223, u224, u225, u226, u227, u228, u229, u230, u231, u232, u233, u234, u235, u236, u237, u238, u239, u240, u241, u242, u243, u244, u245, u246, u247, u248, u249, u250, u251, u252, u253, u254, u255, u256, u257, u258, u259, u260, u261, u262, u263, u264], []⟩ w := by
  conv => arg 2; whnf
  have hs0 : w0.heap.size ≤ w.heap.size := hB.size
  have hbl := hbx.lt
  have hL1 : 1 ≤ L := by have := (validForm_bounds hval).1; simp only at this; omega
  have kL : I64 (L : Int) := by constructor <;> omega
  have HSM : Hid (SmallII cs) := small_few (n := 9) h9 (by decide) h3
  have HK : Hid (∀ wx, Below w.heap.size w wx → TwoC wx b 26 (.int .i64 L) (.slice fa cs.length fc)) := fun wx hx => hbx.below hx hbl
  have HI : Hid (∀ wx, Below w.heap.size w wx → Intss wx 0 w.heap.size (.slice fa cs.length fc) cs) := fun wx hx => hcs.below hx (Nat.le_refl _)
  have HF : Hid (∀ wx, Below w.heap.size w wx → FormR wx 0 wx.heap.size (.agg #[.int .i64 L, .slice fa cs.length fc]) ⟨L, cs⟩) := fun wx hx => ⟨⟨_, rfl, (HI.out wx hx).mono (Nat.le_refl _) hx.size (Nat.le_refl _)⟩, kL⟩
  have HB := Lib.hid hB
  have HY0 := Lib.hid h0
  have HY1 := Lib.hid h1
  have HV := Lib.hid hval
  have H3 := Lib.hid h3
  have q0 := hbx.c0
  have q1 := hbx.c1
  clear h0 h1 hB hbx hcs h3 hval
  have he0 := emptySlice w
  obtain ⟨W, hW⟩ : ∃ X, X = w.alloc (.cells #[] 2) := ⟨_, rfl⟩
  have HE0 : Hid (OwnI W w.heap.size W.heap.size (.slice (some ⟨w.heap.size, 0, none⟩) 0 0) []) := by rw [hW]; exact he0.mono (Nat.le_refl _) (by simp) (Nat.le_refl _)
  have HBW : Hid (Below w.heap.size w W) := by rw [hW]; exact alloc_below _ _
  clear he0
  go_wp2_with fail
  rw [← hW]
  clear hW
  conv => arg 2; whnf
  go_wp2_with fail
  go_loopw [20, 21] (fun av xv wr => ∃ (k : Nat) (gs : List Int), k ≤ L ∧ xv = .int .i64 ((k + 1 : Nat)) ∧ gs.length ≤ k ∧ OwnI wr w.heap.size wr.heap.size av gs ∧ Below w.heap.size w wr) (fun _ xv _ => L + 1 - (intOf xv).toNat)
  case atStart => exact ⟨0, [], Nat.zero_le _, rfl, Nat.le_refl _, HE0.out, HBW.out⟩
  case round =>
    obtain ⟨av, hav⟩ : ∃ v, v = u20 := ⟨_, rfl⟩
    rw [← hav] at hrel
    rw [← hav]
    clear hav
    obtain ⟨k, gs, hk, rfl, hgl, hoa, hbr⟩ := hrel
    have HA := Lib.hid hoa
    have HBR := Lib.hid hbr
    have hsr : w.heap.size ≤ wr.heap.size := hbr.size
    have q0 := (HK.out wr hbr).c0
    have q1 := (HK.out wr hbr).c1
    clear hoa hbr
    by_cases hlt : k < L
    · have hxr := atF_rng z1 ((k + 1 : Nat) : Int) 3 (by decide)
      have HAT := Lib.hid (b10At_any v1 z1 (k + 1) 3 wr (HY1.out.below (HB.out.trans (HBR.out.mono hs0)) (Nat.le_refl _)) (by omega) (by decide) (by decide))
      obtain ⟨a, ha⟩ : ∃ a, a = atF z1 ((k + 1 : Nat) : Int) 3 := ⟨_, rfl⟩
      rw [← ha] at HAT hxr
      clear ha
      rcases (show a = 0 ∨ a = 1 ∨ a = 2 by omega) with rfl | rfl | rfl
      · clear hxr
        go_wp2_with fail
        refine HAT.out.mono ?_
        rintro e w' ⟨rfl, rfl⟩
        go_wp2_with fail
        go_roundw
        case rel => exact ⟨k + 1, gs, by omega, by go_num, by omega, HA.out, HBR.out⟩
        case measure => simp [intOf]; omega
      · clear hxr
        obtain ⟨y, hy⟩ : ∃ y : Int, y = ((k : Int) + 1) * (-1) := ⟨_, rfl⟩
        have hy2 : ((k + 1 : Nat) : Int) * (-1) = y := by rw [hy]; omega
        have hy3 : ((k : Int) + 1) * (-1) = y := hy.symm
        have ky : I64 y := by constructor <;> omega
        have hyr : -100 ≤ y ∧ y ≤ 0 := by omega
        clear hy
        go_wp2_with fail
        refine HAT.out.mono ?_
        rintro e w' ⟨rfl, rfl⟩
        go_wp2_with (at_builtin; refine wpList_app1 rfl _ _ rfl _ gs rfl _ _ HA.out rfl (by first | exact ky | (constructor <;> omega)) (by omega) hsr ?_)
        intro v6 w6 ho6 hsm6 hz6 hbk6
        have HA6 := Lib.hid ho6
        have HB6 := Lib.hid (HBR.out.trans (hsm6.below (Nat.le_refl _) hsr))
        clear ho6 hsm6 hz6 hbk6
        go_wp2
        go_roundw
        case rel => exact ⟨k + 1, _, by omega, by go_num, by simp; omega, HA6.out, HB6.out⟩
        case measure => simp [intOf]; omega
      · clear hxr
        go_wp2_with fail
        refine HAT.out.mono ?_
        rintro e w' ⟨rfl, rfl⟩
        go_wp2_with (at_builtin; refine wpList_app1 rfl _ _ rfl _ gs rfl _ _ HA.out rfl (by constructor <;> omega) (by omega) hsr ?_)
        intro v6 w6 ho6 hsm6 hz6 hbk6
        have HA6 := Lib.hid ho6
        have HB6 := Lib.hid (HBR.out.trans (hsm6.below (Nat.le_refl _) hsr))
        clear ho6 hsm6 hz6 hbk6
        go_wp2
        go_roundw
        case rel => exact ⟨k + 1, _, by omega, by go_num, by simp; omega, HA6.out, HB6.out⟩
        case measure => simp [intOf]; omega
    · obtain rfl : L = k := by omega
      go_upto_region 44 with (fail)
      exact join_part (by assumption) (proofsL w0 wr (HB.out.trans (HBR.out.mono hs0)) HY0.out HY1.out (HK.out wr HBR.out) ((HI.out wr HBR.out).mono (Nat.le_refl _) HBR.out.size (Nat.le_refl _)) HV.out h9 H3.out h5 (HA.out.rd.mono (Nat.zero_le _) (Nat.le_refl _) (Nat.le_refl _)) (by omega))
end Go.Proofs.Ytcpbgjnijhcpkaa

namespace Go.Proofs.Ytcpbgjnijhcpkaa
open Go.RowKit
set_option linter.unusedVariables false
set_option maxRecDepth 100000

set_option maxHeartbeats 3000000 in
set_option maxRecDepth 100000 in
theorem reg29a (wr : World) {u0 u1 u2 u3 u4 u6 u7 u8 u9 u10 u11 u12 u14 u15 u16 u18 u19 u20 u21 u22 u23 u24 u25 u26 u27 u28 u29 u30 u31 u32 u33 u34 u35 u36 u37 u38 u39 u40 u41 u42 u43 u44 u45 u46 u47 u48 u49 u50 u51 u52 u53 u54 u55 u56 u57 u58 u59 u60 u61 u62 u63 u64 u65 u66 u67 u68 u69 u70 u71 u72 u73 u74 u75 u76 u77 u78 u79 u80 u81 u82 u83 u84 u85 u86 u87 u88 u89 u90 u91 u92 u93 u94 u95 u96 u97 u98 u99 u100 u101 u102 u103 u104 u105 u106 u107 u108 u109 u110 u111 u112 u113 u114 u115 u116 u117 u118 u119 u120 u121 u122 u123 u124 u125 u126 u127 u128 u129 u130 u131 u132 u133 u134 u135 u136 u137 u138 u139 u140 u141 u142 u143 u144 u145 u146 u147 u148 u149 u150 u151 u152 u153 u154 u155 u156 u157 u158 u159 u160 u161 u162 u163 u164 u165 u166 u167 u168 u169 u170 u171 u172 u173 u174 u175 u176 u177 u178 u179 u180 u181 u182 u183 u184 u185 u186 u187 u188 u189 u190 u191 u192 u193 u194 u195 u196 u197 u198 u199 u200 u201 u202 u203 u204 u205 u206 u207 u208 u209 u210 u211 u212 u213 u214 u215 u216 u217 u218 u219 u220 u221 u222 u223 u224 u225 u226 u227 u228 u229 u230 u231 u232 u233 u234 u235 u236 u237 u238 u239 u240 u241 u242 u243 u244 u245 u246 u247 u248 u249 u250 u251 u252 u253 u254 u255 u256 u257 u258 u259 u260 u261 u262 u263 u264 : Value} {b gb go cl rc n fc x : Nat} {fa : Option Addr} {L : Int} (q0 : wr.cell? ⟨b, 0, none⟩ = some (.int .i64 L)) (q1 : wr.cell? ⟨b, 1, none⟩ = some (.slice fa n fc)) (hcl : cl ≤ 9) (hk : 0 < cl) (hck : wr.cell? ⟨gb, go, none⟩ = some (.int .i64 (x : Int)))
    (hx1 : ¬ (x : Int) < 0) (hx2 : ¬ (n : Int) ≤ (x : Int)) (hx3 : ¬ n ≤ x) (K : Act → World → Prop) (Q : Exit → Act → World → Prop) (hK : ∀ (w' : World) (t134 t135 t136 t137 t138 t139 t140 t141 t142 t143 t144 t145 t146 t147 t148 t149 t150 t151 t152 t153 t154 t155 t156 t157 t158 t159 t160 t161 t162 t163 : Value), Drew wr w' → K ⟨#[u0, u1, u2, u3, u4, (.pointer (some ⟨b, 0, none⟩)), u6, u7, u8, u9, u10, u11, u12, (.slice (some ⟨gb, go, none⟩) cl rc), u14, u15, u16, (.int .i64 0), u18, u19, u20, u21, u22, u23, u24, u25, u26, u27, u28, u29, u30, u31, u32, u33, u34, u35, u36, u37, u38, u39, u40, u41, u42, u43, u44, u45, u46, u47, u48, u49, u50, u51, u52, u53, u54, u55, u56, u57, u58, u59, u60, u61, u62, u63, u64, u65, u66, u67, u68, u69, u70, u71, u72, u73, u74, u75, u76, u77, u78, u79, u80, u81, u82, u83, u84, u85, u86, u87, u88, u89, u90, u91, u92, u93, u94, u95, u96, u97, u98, u99, u100, u101, u102, u103, u104, u105, u106, u107, u108, u109, u110, u111, u112, u113, u114, u115, u116, u117, u118, u119, u120, u121, u122, u123, u124, u125, u126, u127, u128, u129, u130, u131, u132, u133, t134, t135, t136, t137, t138, t139, t140, t141, t142, t143, t144, t145, t146, t147, t148, t149, t150, t151, t152, t153, t154, t155, t156, t157, t158, t159, t160, t161, t162, t163, (.bool false), u165, u166, u167, u168, u169, u170, u171, u172, u173, u174, u175, u176, u177, u178, u179, u180, u181, u182, u183, u184, u185, u186, u187, u188, u189, u190, u191, u192, u193, u194, u195, u196, u197, u198, u199, u200, u201, u202, u203, u204, u205, u206, u207, u208, u209, u210, u211, u212, u213, u214, u215, u216, u217, u218, u219, u220, u221, u222, u223, u224, u225, u226, u227, u228, u229, u230, u231, u232, u233, u234, u235, u236, u237, u238, u239, u240, u241, u242, u243, u244, u245, u246, u247, u248, u249, u250, u251, u252, u253, u254, u255, u256, u257, u258, u259, u260, u261, u262, u263, u264], []⟩ w') :
    Code.wp Try.prog ((regC 29 (Try.f3.body.getD .skip)).getD .skip) (Exit.then K Q) ⟨#[u0, u1, u2, u3, u4, (.pointer (some ⟨b, 0, none⟩)), u6, u7, u8, u9, u10, u11, u12, (.slice (some ⟨gb, go, none⟩) cl rc), u14, u15, u16, (.int .i64 0), u18, u19, u20, u21, u22, u23, u24, u25, u26, u27, u28, u29, u30, u31, u32, u33, u34, u35, u36, u37, u38, u39, u40, u41, u42, u43, u44, u45, u46, u47, u48, u49, u50, u51, u52, u53, u54, u55, u56, u57, u58, u59, u60, u61, u62, u63, u64, u65, u66, u67, u68, u69, u70, u71, u72, u73, u74, u75, u76, u77, u78, u79, u80, u81, u82, u83, u84, u85, u86, u87, u88, u89, u90, u91, u92, u93, u94, u95, u96, u97, u98, u99, u100, u101, u102, u103, u104, u105, u106, u107, u108, u109, u110, u111, u112, u113, u114, u115, u116, u117, u118, u119, u120, u121, u122, u123, u124, u125, u126, u127, u128, u129, u130, u131, u132, u133, u134, u135, u136, u137, u138, u139, u140, u141, u142, u143, u144, u145, u146, u147, u148, u149, u150, u151, u152, u153, u154, u155, u156, u157, u158, u159, u160, u161, u162, u163, u164, u165, u166, u167, u168, u169, u170, u171, u172, u173, u174, u175, u176, u177, u178, u179, u180, u181, u182, u183, u184, u185, u186, u187, u188, u189, u190, u191, u192, u193, u194, u195, u196, u197, u198, u199, u200, u201, u202, u203, u204, u205, u206, u207, u208, u209, u210, u211, u212, u213, u214, u215, u216, u217, u218, u219, u220, u221, u222, u223, u224, u225, u226, u227, u228, u229, u230, u231, u232, u233, u234, u235, u236, u237, u238, u239, u240, u241, u242, u243, u244, u245, u246, u247, u248, u249, u250, u251, u252, u253, u254, u255, u256, u257, u258, u259, u260, u261, u262, u263, u264], []⟩ wr := by
  conv => arg 2; whnf
  have hk1 : (0 : Int) < (cl : Int) := by omega
  dsimp only
  go_big_quiet (fail)
  show K _ _
  exact hK _ _ _ _ _ _ _ _ _ _ _ _ _ _ _ _ _ _ _ _ _ _ _ _ _ _ _ _ _ _ _ ⟨_, rfl⟩
end Go.Proofs.Ytcpbgjnijhcpkaa

namespace Go.Proofs.Ytcpbgjnijhcpkaa
open Go.RowKit
set_option linter.unusedVariables false
set_option maxRecDepth 100000

set_option maxHeartbeats 3000000 in
set_option maxRecDepth 100000 in
theorem reg29b (wr : World) {u0 u1 u2 u3 u4 u6 u7 u8 u9 u10 u11 u12 u14 u15 u16 u18 u19 u20 u21 u22 u23 u24 u25 u26 u27 u28 u29 u30 u31 u32 u33 u34 u35 u36 u37 u38 u39 u40 u41 u42 u43 u44 u45 u46 u47 u48 u49 u50 u51 u52 u53 u54 u55 u56 u57 u58 u59 u60 u61 u62 u63 u64 u65 u66 u67 u68 u69 u70 u71 u72 u73 u74 u75 u76 u77 u78 u79 u80 u81 u82 u83 u84 u85 u86 u87 u88 u89 u90 u91 u92 u93 u94 u95 u96 u97 u98 u99 u100 u101 u102 u103 u104 u105 u106 u107 u108 u109 u110 u111 u112 u113 u114 u115 u116 u117 u118 u119 u120 u121 u122 u123 u124 u125 u126 u127 u128 u129 u130 u131 u132 u133 u134 u135 u136 u137 u138 u139 u140 u141 u142 u143 u144 u145 u146 u147 u148 u149 u150 u151 u152 u153 u154 u155 u156 u157 u158 u159 u160 u161 u162 u163 u164 u165 u166 u167 u168 u169 u170 u171 u172 u173 u174 u175 u176 u177 u178 u179 u180 u181 u182 u183 u184 u185 u186 u187 u188 u189 u190 u191 u192 u193 u194 u195 u196 u197 u198 u199 u200 u201 u202 u203 u204 u205 u206 u207 u208 u209 u210 u211 u212 u213 u214 u215 u216 u217 u218 u219 u220 u221 u222 u223 u224 u225 u226 u227 u228 u229 u230 u231 u232 u233 u234 u235 u236 u237 u238 u239 u240 u241 u242 u243 u244 u245 u246 u247 u248 u249 u250 u251 u252 u253 u254 u255 u256 u257 u258 u259 u260 u261 u262 u263 u264 : Value} {b gb go cl rc n fc x m : Nat} {fa : Option Addr} {yv L : Int} (q0 : wr.cell? ⟨b, 0, none⟩ = some (.int .i64 L)) (q1 : wr.cell? ⟨b, 1, none⟩ = some (.slice fa n fc)) (hcl : cl ≤ 9) (hk : m + 1 < cl) (hck : wr.cell? ⟨gb, go + (m + 1), none⟩ = some (.int .i64 (x : Int))) (hcm : wr.cell? ⟨gb, go + m, none⟩ = some (.int .i64 yv)) (hyx : ¬ (x : Int) ≤ yv)
    (hx1 : ¬ (x : Int) < 0) (hx2 : ¬ (n : Int) ≤ (x : Int)) (hx3 : ¬ n ≤ x) (K : Act → World → Prop) (Q : Exit → Act → World → Prop) (hK : ∀ (w' : World) (t134 t135 t136 t137 t138 t139 t140 t141 t142 t143 t144 t145 t146 t147 t148 t149 t150 t151 t152 t153 t154 t155 t156 t157 t158 t159 t160 t161 t162 t163 : Value), Drew wr w' → K ⟨#[u0, u1, u2, u3, u4, (.pointer (some ⟨b, 0, none⟩)), u6, u7, u8, u9, u10, u11, u12, (.slice (some ⟨gb, go, none⟩) cl rc), u14, u15, u16, (.int .i64 ((m : Int) + 1)), u18, u19, u20, u21, u22, u23, u24, u25, u26, u27, u28, u29, u30, u31, u32, u33, u34, u35, u36, u37, u38, u39, u40, u41, u42, u43, u44, u45, u46, u47, u48, u49, u50, u51, u52, u53, u54, u55, u56, u57, u58, u59, u60, u61, u62, u63, u64, u65, u66, u67, u68, u69, u70, u71, u72, u73, u74, u75, u76, u77, u78, u79, u80, u81, u82, u83, u84, u85, u86, u87, u88, u89, u90, u91, u92, u93, u94, u95, u96, u97, u98, u99, u100, u101, u102, u103, u104, u105, u106, u107, u108, u109, u110, u111, u112, u113, u114, u115, u116, u117, u118, u119, u120, u121, u122, u123, u124, u125, u126, u127, u128, u129, u130, u131, u132, u133, t134, t135, t136, t137, t138, t139, t140, t141, t142, t143, t144, t145, t146, t147, t148, t149, t150, t151, t152, t153, t154, t155, t156, t157, t158, t159, t160, t161, t162, t163, (.bool false), u165, u166, u167, u168, u169, u170, u171, u172, u173, u174, u175, u176, u177, u178, u179, u180, u181, u182, u183, u184, u185, u186, u187, u188, u189, u190, u191, u192, u193, u194, u195, u196, u197, u198, u199, u200, u201, u202, u203, u204, u205, u206, u207, u208, u209, u210, u211, u212, u213, u214, u215, u216, u217, u218, u219, u220, u221, u222, u223, u224, u225, u226, u227, u228, u229, u230, u231, u232, u233, u234, u235, u236, u237, u238, u239, u240, u241, u242, u243, u244, u245, u246, u247, u248, u249, u250, u251, u252, u253, u254, u255, u256, u257, u258, u259, u260, u261, u262, u263, u264], []⟩ w') :
    Code.wp Try.prog ((regC 29 (Try.f3.body.getD .skip)).getD .skip) (Exit.then K Q) ⟨#[u0, u1, u2, u3, u4, (.pointer (some ⟨b, 0, none⟩)), u6, u7, u8, u9, u10, u11, u12, (.slice (some ⟨gb, go, none⟩) cl rc), u14, u15, u16, (.int .i64 ((m : Int) + 1)), u18, u19, u20, u21, u22, u23, u24, u25, u26, u27, u28, u29, u30, u31, u32, u33, u34, u35, u36, u37, u38, u39, u40, u41, u42, u43, u44, u45, u46, u47, u48, u49, u50, u51, u52, u53, u54, u55, u56, u57, u58, u59, u60, u61, u62, u63, u64, u65, u66, u67, u68, u69, u70, u71, u72, u73, u74, u75, u76, u77, u78, u79, u80, u81, u82, u83, u84, u85, u86, u87, u88, u89, u90, u91, u92, u93, u94, u95, u96, u97, u98, u99, u100, u101, u102, u103, u104, u105, u106, u107, u108, u109, u110, u111, u112, u113, u114, u115, u116, u117, u118, u119, u120, u121, u122, u123, u124, u125, u126, u127, u128, u129, u130, u131, u132, u133, u134, u135, u136, u137, u138, u139, u140, u141, u142, u143, u144, u145, u146, u147, u148, u149, u150, u151, u152, u153, u154, u155, u156, u157, u158, u159, u160, u161, u162, u163, u164, u165, u166, u167, u168, u169, u170, u171, u172, u173, u174, u175, u176, u177, u178, u179, u180, u181, u182, u183, u184, u185, u186, u187, u188, u189, u190, u191, u192, u193, u194, u195, u196, u197, u198, u199, u200, u201, u202, u203, u204, u205, u206, u207, u208, u209, u210, u211, u212, u213, u214, u215, u216, u217, u218, u219, u220, u221, u222, u223, u224, u225, u226, u227, u228, u229, u230, u231, u232, u233, u234, u235, u236, u237, u238, u239, u240, u241, u242, u243, u244, u245, u246, u247, u248, u249, u250, u251, u252, u253, u254, u255, u256, u257, u258, u259, u260, u261, u262, u263, u264], []⟩ wr := by
  conv => arg 2; whnf
  have hb0 : (0 : Int) ≤ (m : Int) + 1 := by omega
  have hb1 : (m : Int) + 1 < (cl : Int) := by omega
  have hb2 : (0 : Int) < (m : Int) + 1 := by omega
  have hb3 : ((m : Int) + 1).toNat = m + 1 := by omega
  have hw1 : IntKind.i64.wrap (m : Int) = (m : Int) := IntWalk.i64_in _ (by omega)
  have hw2 : IntKind.i64.wrap ((m : Int) + 1 - 1) = (m : Int) := by rw [Int.add_sub_cancel]; exact IntWalk.i64_in _ (by omega)
  have hml : m < cl := by omega
  have hml2 : (m : Int) < (cl : Int) := by omega
  have hD : Drew wr wr.drew := ⟨1, rfl⟩
  have HS : Hid (wr.drew.cell? ⟨b, 0, none⟩ = some (.int .i64 L) ∧ wr.drew.cell? ⟨b, 1, none⟩ = some (.slice fa n fc) ∧ wr.drew.cell? ⟨gb, go + (m + 1), none⟩ = some (.int .i64 (x : Int)) ∧ wr.drew.cell? ⟨gb, go + m, none⟩ = some (.int .i64 yv)) := by rw [Hid, hD.cell]; exact ⟨q0, q1, hck, hcm⟩
  go_region_held3 (fun w' => w'.cell? ⟨b, 0, none⟩ = some (.int .i64 L) ∧ w'.cell? ⟨b, 1, none⟩ = some (.slice fa n fc) ∧ w'.cell? ⟨gb, go + (m + 1), none⟩ = some (.int .i64 (x : Int)) ∧ w'.cell? ⟨gb, go + m, none⟩ = some (.int .i64 yv)) (exact HS.out) (first | fail)
  show K _ _
  exact hK _ _ _ _ _ _ _ _ _ _ _ _ _ _ _ _ _ _ _ _ _ _ _ _ _ _ _ _ _ _ _ ⟨_, rfl⟩
end Go.Proofs.Ytcpbgjnijhcpkaa

namespace Go.Proofs.Ytcpbgjnijhcpkaa
open Go.RowKit
set_option linter.unusedVariables false
set_option maxRecDepth 100000

theorem sz_drew (w : World) : w.drew.heap.size = w.heap.size := by rw [(show Drew w w.drew from ⟨1, rfl⟩).heap]
theorem belDr {lo : Nat} {a w : World} (h : Below lo a w) : Below lo a w.drew := h.trans (Drew.below (show Drew w w.drew from ⟨1, rfl⟩) _)
set_option maxHeartbeats 3000000 in
set_option maxRecDepth 100000 in
theorem reg32 (wr : World) {u0 u1 u2 u3 u4 u6 u7 u8 u9 u10 u11 u12 u14 u15 u18 u19 u20 u21 u22 u23 u24 u25 u26 u27 u28 u29 u30 u31 u32 u33 u34 u35 u36 u37 u38 u39 u40 u41 u42 u43 u44 u45 u46 u47 u48 u49 u50 u51 u52 u53 u54 u55 u56 u57 u58 u59 u60 u61 u62 u63 u64 u65 u66 u67 u68 u69 u70 u71 u72 u73 u74 u75 u76 u77 u78 u79 u80 u81 u82 u83 u84 u85 u86 u87 u88 u89 u90 u91 u92 u93 u94 u95 u96 u97 u98 u99 u100 u101 u102 u103 u104 u105 u106 u107 u108 u109 u110 u111 u112 u113 u114 u115 u116 u117 u118 u119 u120 u121 u122 u123 u124 u125 u126 u127 u128 u129 u130 u131 u132 u133 u134 u135 u136 u137 u138 u139 u140 u141 u142 u143 u144 u145 u146 u147 u148 u149 u150 u151 u152 u153 u154 u155 u156 u157 u158 u159 u160 u161 u162 u163 u164 u165 u166 u167 u168 u169 u170 u171 u172 u173 u174 u175 u176 u177 u178 u179 u180 u181 u182 u183 u184 u185 u186 u187 u188 u189 u190 u191 u192 u193 u194 u195 u196 u197 u198 u199 u200 u201 u202 u203 u204 u205 u206 u207 u208 u209 u210 u211 u212 u213 u214 u215 u216 u217 u218 u219 u220 u221 u222 u223 u224 u225 u226 u227 u228 u229 u230 u231 u232 u233 u234 u235 u236 u237 u238 u239 u240 u241 u242 u243 u244 u245 u246 u247 u248 u249 u250 u251 u252 u253 u254 u255 u256 u257 u258 u259 u260 u261 u262 u263 u264 : Value} {b zp gb go cl rc fb fo n fc k x pl vc rl Vc lo : Nat} {va Va : Option Addr} {L iv : Int} {P : List (List Int)} {row : List Int}
    (hz : TwoC wr zp 26 (.int .i64 L) (.slice va pl vc)) (hrv : RefV wr lo (fun p => lo ≤ p) (.slice va pl vc) P) (hpl : pl = P.length) (hne : (Value.slice va pl vc).ownBlock ≠ some zp)
    (hlz : lo ≤ zp) (hbl : b < lo) (hgl : gb < lo) (hfl : fb < lo) (q1 : wr.cell? ⟨b, 1, none⟩ = some (.slice (some ⟨fb, fo, none⟩) n fc)) (hck : wr.cell? ⟨gb, go + k, none⟩ = some (.int .i64 (x : Int))) (hfk : wr.cell? ⟨fb, fo + x, none⟩ = some (.slice Va rl Vc)) (hrow : Ints wr 0 lo (.slice Va rl Vc) row)
    (hi0 : 0 ≤ iv) (hi1 : iv < (cl : Int)) (hik : iv.toNat = k) (hxn : (x : Int) < (n : Int)) (hl : P.length + 1 ≤ 1048576)
    (R : Exit → Act → World → Prop) (hK : ∀ (v' : Value) (w' : World) (t168 t169 t170 t171 t172 t173 t174 t175 t176 t177 t178 t179 t180 : Value), TwoC w' zp 26 (.int .i64 L) v' → RefV w' lo (fun p => lo ≤ p) v' (P ++ [row]) → v'.ownBlock ≠ some zp → Below lo wr w' → R .normal ⟨#[u0, u1, u2, u3, u4, (.pointer (some ⟨b, 0, none⟩)), u6, u7, u8, u9, u10, u11, u12, (.slice (some ⟨gb, go, none⟩) cl rc), u14, u15, (.pointer (some ⟨zp, 0, none⟩)), (.int .i64 iv), u18, u19, u20, u21, u22, u23, u24, u25, u26, u27, u28, u29, u30, u31, u32, u33, u34, u35, u36, u37, u38, u39, u40, u41, u42, u43, u44, u45, u46, u47, u48, u49, u50, u51, u52, u53, u54, u55, u56, u57, u58, u59, u60, u61, u62, u63, u64, u65, u66, u67, u68, u69, u70, u71, u72, u73, u74, u75, u76, u77, u78, u79, u80, u81, u82, u83, u84, u85, u86, u87, u88, u89, u90, u91, u92, u93, u94, u95, u96, u97, u98, u99, u100, u101, u102, u103, u104, u105, u106, u107, u108, u109, u110, u111, u112, u113, u114, u115, u116, u117, u118, u119, u120, u121, u122, u123, u124, u125, u126, u127, u128, u129, u130, u131, u132, u133, u134, u135, u136, u137, u138, u139, u140, u141, u142, u143, u144, u145, u146, u147, u148, u149, u150, u151, u152, u153, u154, u155, u156, u157, u158, u159, u160, u161, u162, u163, u164, u165, u166, u167, t168, t169, t170, t171, t172, t173, t174, t175, t176, t177, t178, t179, t180, u181, u182, u183, u184, u185, u186, u187, u188, u189, u190, u191, u192, u193, u194, u195, u196, u197, u198, u199, u200, u201, u202, u203, u204, u205, u206, u207, u208, u209, u210, u211, u212, u213, u214, u215, u216, u217, u218, u219, u220, u221, u222, u223, u224, u225, u226, u227, u228, u229, u230, u231, u232, u233, u234, u235, u236, u237, u238, u239, u240, u241, u242, u243, u244, u245, u246, u247, u248, u249, u250, u251, u252, u253, u254, u255, u256, u257, u258, u259, u260, u261, u262, u263, u264], []⟩ w') :
    Code.wp Try.prog ((regC 32 (Try.f3.body.getD .skip)).getD .skip) R ⟨#[u0, u1, u2, u3, u4, (.pointer (some ⟨b, 0, none⟩)), u6, u7, u8, u9, u10, u11, u12, (.slice (some ⟨gb, go, none⟩) cl rc), u14, u15, (.pointer (some ⟨zp, 0, none⟩)), (.int .i64 iv), u18, u19, u20, u21, u22, u23, u24, u25, u26, u27, u28, u29, u30, u31, u32, u33, u34, u35, u36, u37, u38, u39, u40, u41, u42, u43, u44, u45, u46, u47, u48, u49, u50, u51, u52, u53, u54, u55, u56, u57, u58, u59, u60, u61, u62, u63, u64, u65, u66, u67, u68, u69, u70, u71, u72, u73, u74, u75, u76, u77, u78, u79, u80, u81, u82, u83, u84, u85, u86, u87, u88, u89, u90, u91, u92, u93, u94, u95, u96, u97, u98, u99, u100, u101, u102, u103, u104, u105, u106, u107, u108, u109, u110, u111, u112, u113, u114, u115, u116, u117, u118, u119, u120, u121, u122, u123, u124, u125, u126, u127, u128, u129, u130, u131, u132, u133, u134, u135, u136, u137, u138, u139, u140, u141, u142, u143, u144, u145, u146, u147, u148, u149, u150, u151, u152, u153, u154, u155, u156, u157, u158, u159, u160, u161, u162, u163, u164, u165, u166, u167, u168, u169, u170, u171, u172, u173, u174, u175, u176, u177, u178, u179, u180, u181, u182, u183, u184, u185, u186, u187, u188, u189, u190, u191, u192, u193, u194, u195, u196, u197, u198, u199, u200, u201, u202, u203, u204, u205, u206, u207, u208, u209, u210, u211, u212, u213, u214, u215, u216, u217, u218, u219, u220, u221, u222, u223, u224, u225, u226, u227, u228, u229, u230, u231, u232, u233, u234, u235, u236, u237, u238, u239, u240, u241, u242, u243, u244, u245, u246, u247, u248, u249, u250, u251, u252, u253, u254, u255, u256, u257, u258, u259, u260, u261, u262, u263, u264], []⟩ wr := by
  conv => arg 2; whnf
  have hlo := hrv.hlo
  have hx0 : (0 : Int) ≤ (x : Int) := by omega
  have hx9 : x < n := by omega
  have hzl : zp < wr.heap.size := hz.lt
  have HKS : Hid (∀ wx, Below lo wr wx → wx.cell? ⟨b, 1, none⟩ = some (.slice (some ⟨fb, fo, none⟩) n fc) ∧ wx.cell? ⟨gb, go + k, none⟩ = some (.int .i64 (x : Int)) ∧ wx.cell? ⟨fb, fo + x, none⟩ = some (.slice Va rl Vc)) := fun wx hx => by
    refine ⟨?_, ?_, ?_⟩
    · rw [hx.cell (p := ⟨b, 1, none⟩) hbl]; exact q1
    · rw [hx.cell (p := ⟨gb, go + k, none⟩) hgl]; exact hck
    · rw [hx.cell (p := ⟨fb, fo + x, none⟩) hfl]; exact hfk
  have HROW : Hid (∀ wx, Below lo wr wx → Ints wx 0 lo (.slice Va rl Vc) row) := fun wx hx => hrow.keep hx.size (fun p _ h _ => hx.block p h)
  have HOB : Hid (∀ p, (Value.slice va pl vc).ownBlock = some p → lo ≤ p) := fun p hp => by
    obtain ⟨vs, h1, h2, _⟩ := hrv.ex
    exact (h2.row.lt p hp).1
  have HNE := Lib.hid hne
  have HRV := Lib.hid hrv
  have HL := Lib.hid hl
  have HZ := Lib.hid hz
  have zc := hz.c1
  have zd : wr.drew.cell? ⟨zp, 1, none⟩ = some (.slice va pl vc) := hz.drew1.c1
  have za : ∀ o, (wr.drew.alloc o).cell? ⟨zp, 1, none⟩ = some (.slice va pl vc) := fun o => (hz.drew1.alloc o).c1
  have zb : ∀ o, (wr.alloc o).drew.cell? ⟨zp, 1, none⟩ = some (.slice va pl vc) := fun o => (hz.alloc o).drew1.c1
  clear hz hrv hne hrow hl hpl
  have hD : Drew wr wr.drew := ⟨1, rfl⟩
  have q1d : wr.drew.cell? ⟨b, 1, none⟩ = some (.slice (some ⟨fb, fo, none⟩) n fc) := by rw [hD.cell]; exact q1
  have q2d : wr.drew.cell? ⟨gb, go + k, none⟩ = some (.int .i64 (x : Int)) := by rw [hD.cell]; exact hck
  have q3d : wr.drew.cell? ⟨fb, fo + x, none⟩ = some (.slice Va rl Vc) := by rw [hD.cell]; exact hfk
  clear q1 hck hfk zc
  refine wp_region_noPanic ?_
  go_region_law (first | (refine step_row (lo := lo) (E := (fun p => lo ≤ p)) (by rfl) _ _ (by rfl) P row HL.out (fun p => lo ≤ p) (fun p hp => hp) (.slice va pl vc) (by rfl) (by (repeat' (first | (with_reducible refine RefV.drew1 ?_) | (with_reducible refine RefV.alloc ?_ _) | (with_reducible exact HRV.out))); all_goals (first | omega | (simp; done) | (simp; omega) | (simp only [World.size_alloc]; rfl) | rfl)) _ (.slice Va rl Vc) (by rfl) (by (repeat' (first | (with_reducible refine OneC.drew1 ?_) | (with_reducible refine OneC.newAt ?_) | (with_reducible refine OneC.allocAt ?_ _))); all_goals (first | omega | (simp; done) | (simp; omega) | (simp only [World.size_alloc]; rfl) | rfl)) ⟨0, lo, HROW.out _ (by (repeat' (first | (with_reducible exact kb2) | (with_reducible exact Below.refl _ _) | (with_reducible refine Below.alloc ?_ ?_ _) | (with_reducible refine belDr ?_) | (with_reducible refine Below.setCell ?_ ?_ _))); all_goals (first | omega | (simp; done) | (simp; omega) | (simp only [World.size_alloc]; rfl) | rfl)), by (have : lo ≤ wr.heap.size := hlo); (first | omega | (simp; done) | (simp; omega) | (simp only [World.size_alloc]; rfl) | rfl), fun p hp => .inr (HOB.out p hp), fun p hp => .inr hp⟩ ?_; intro v2 w2 hr2 hk2 hb2 hbk2; obtain ⟨va2, vc2, hve2, hcap2⟩ := hr2.shape; rw [List.length_append, List.length_singleton] at hve2; subst hve2; have kb2 : Below lo wr w2 := Below.trans (by (repeat' (first | (with_reducible exact kb2) | (with_reducible exact Below.refl _ _) | (with_reducible refine Below.alloc ?_ ?_ _) | (with_reducible refine belDr ?_) | (with_reducible refine Below.setCell ?_ ?_ _))); all_goals (first | omega | (simp; done) | (simp; omega) | (simp only [World.size_alloc]; rfl) | rfl)) (Below.mono hb2 (Nat.le_refl _)); have kz2 := hb2.size; (try simp only [World.size_alloc, sz_drew] at kz2); have hz2 := @TwoC.kept _ w2 _ 26 (.int .i64 L) (.slice va pl vc) (.slice va pl vc) (by (repeat' (first | (with_reducible apply TwoC.drew1) | (with_reducible apply TwoC.alloc) | (with_reducible exact HZ.out))); all_goals (first | omega | (simp; done) | (simp; omega) | (simp only [World.size_alloc]; rfl) | rfl)) hk2 HNE.out; have zc1 := hz2.c1; have zf1 := hz2.f1) | fail)
  all_goals
    refine NoPanic.normal ?_
    exact hK _ _ _ _ _ _ _ _ _ _ _ _ _ _ _ (hz2.set1 _) (hr2.set (by show _ ≤ _; (first | omega | (simp; done) | (simp; omega) | (simp only [World.size_alloc]; rfl) | rfl)) (own_neC hbk2 HNE.out (by (first | omega | (simp; done) | (simp; omega) | (simp only [World.size_alloc]; rfl) | rfl))) 1 _) (own_neC hbk2 HNE.out (by (first | omega | (simp; done) | (simp; omega) | (simp only [World.size_alloc]; rfl) | rfl))) (Below.setCell kb2 (by (first | omega | (simp; done) | (simp; omega) | (simp only [World.size_alloc]; rfl) | rfl)) _)
end Go.Proofs.Ytcpbgjnijhcpkaa

namespace Go.Proofs.Ytcpbgjnijhcpkaa
open Go.ChangeShapes Go.WideShapes Go.ChangeAt Go.RowKit
set_option linter.unusedVariables false
set_option maxRecDepth 100000

theorem partTo_mem {cs : List (List Int)} {core : List Int} {z : Int} (h : ∀ i, i < core.length → 0 ≤ core.getD i 0 ∧ core.getD i 0 < (cs.length : Int)) : ∀ k, k ≤ core.length → ∀ c ∈ partTo cs core z k, c ∈ cs := by
  intro k hk c hc
  unfold partTo at hc
  rw [List.mem_map] at hc
  obtain ⟨i, hi, rfl⟩ := hc
  have hik := List.mem_range.1 (List.mem_filter.1 hi).1
  have := h i (by omega)
  rw [getD_get (show (core.getD i 0).toNat < cs.length by omega)]
  exact List.getElem_mem _
theorem part_valid {L : Nat} {cs P : List (List Int)} (hv : validForm ⟨(L : Int), cs⟩ = true) (hp : ∀ c ∈ P, c ∈ cs) (h9 : P.length ≤ 9) : validForm ⟨(L : Int), P⟩ = true := by
  obtain ⟨h1, h2, h3⟩ := validForm_bounds hv
  simp only at h1 h2 h3
  unfold validForm
  simp only
  have hin : inB 1 10 (L : Int) = true := by unfold inB; rw [decide_eq_true h1.1, decide_eq_true h1.2]; rfl
  rw [hin, decide_eq_true (show P.length ≤ 48 by omega), List.all_eq_true.2 fun c hc => h3 c (hp c hc)]
  rfl
set_option maxHeartbeats 4000000 in
set_option maxRecDepth 100000 in
theorem proofsN (w0 w : World) {u2 u3 u4 u7 u8 u9 u10 u11 u12 u13 u14 u15 u16 u17 u18 u19 u20 u21 u22 u23 u24 u25 u26 u27 u28 u29 u30 u31 u32 u33 u34 u35 u36 u37 u38 u39 u40 u41 u42 u43 u44 u45 u46 u47 u48 u49 u50 u51 u52 u53 u54 u55 u56 u57 u58 u59 u60 u61 u62 u63 u64 u65 u66 u67 u68 u69 u70 u71 u72 u73 u74 u75 u76 u77 u78 u79 u80 u81 u82 u83 u84 u85 u86 u87 u88 u89 u90 u91 u92 u93 u94 u95 u96 u97 u98 u99 u100 u101 u102 u103 u104 u105 u106 u107 u108 u109 u110 u111 u112 u113 u114 u115 u116 u117 u118 u119 u120 u121 u122 u123 u124 u125 u126 u127 u128 u129 u130 u131 u132 u133 u134 u135 u136 u137 u138 u139 u140 u141 u142 u143 u144 u145 u146 u147 u148 u149 u150 u151 u152 u153 u154 u155 u156 u157 u158 u159 u160 u161 u162 u163 u164 u165 u166 u167 u168 u169 u170 u171 u172 u173 u174 u175 u176 u177 u178 u179 u180 u181 u182 u183 u184 u185 u186 u187 u188 u189 u190 u191 u192 u193 u194 u195 u196 u197 u198 u199 u200 u201 u202 u203 u204 u205 u206 u207 u208 u209 u210 u211 u212 u213 u214 u215 u216 u217 u218 u219 u220 u221 u222 u223 u224 u225 u226 u227 u228 u229 u230 u231 u232 u233 u234 u235 u236 u237 u238 u239 u240 u241 u242 u243 u244 u245 u246 u247 u248 u249 u250 u251 u252 u253 u254 u255 u256 u257 u258 u259 u260 u261 u262 u263 u264 : Value} {v0 v1 : Value} {z0 z1 : List Int} (hB : Below w0.heap.size w0 w) (h0 : Byts w0 0 w0.heap.size v0 z0) (h1 : Byts w0 0 w0.heap.size v1 z1) {b L : Nat} {cs : List (List Int)} {fa : Option Addr} {fc : Nat} (hbx : TwoC w b 26 (.int .i64 (L : Int)) (.slice fa cs.length fc)) (hcs : Intss w 0 w.heap.size (.slice fa cs.length fc) cs) (hval : validForm ⟨(L : Int), cs⟩ = true) (h9 : cs.length ≤ 9) (h3 : ∀ c ∈ cs, c.length ≤ 3) (h5 : L ≤ 5) :
    Code.wp Try.prog (hdC (tlC 8 bodyOf)) (Exit.then (Code.wp Try.prog (tlC 9 bodyOf) (bodyPost Try.prog Try.f3 fun e w' => e = .returned (.bool true) ∧ Below w0.heap.size w0 w')) (bodyPost Try.prog Try.f3 fun e w' => e = .returned (.bool true) ∧ Below w0.heap.size w0 w')) ⟨#[v0, v1, u2, u3, u4, (.pointer (some ⟨b, 0, none⟩)), (.int .i64 ((countN L cs (2 ^ L) : Nat) : Int)), u7, u8, u9, u10, u11, u12, u13, u14, u15, u16, u17, u18, u19, u20, u21, u22, u23, u24, u25, u26, u27, u28, u29, u30, u31, u32, u33, u34, u35, u36, u37, u38, u39, u40, u41, u42, u43, u44, u45, u46, u47, u48, u49, u50, u51, u52, u53, u54, u55, u56, u57, u58, u59, u60, u61, u62, u63, u64, u65, u66, u67, u68, u69, u70, u71, u72, u73, u74, u75, u76, u77, u78, u79, u80, u81, u82, u83, u84, u85, u86, u87, u88, u89, u90, u91, u92, u93, u94, u95, u96, u97, u98, u99, u100, u101, u102, u103, u104, u105, u106, u107, u108, u109, u110, u111, u112, u113, u114, u115, u116, u117, u118, u119, u120, u121, u122, u123, u124, u125, u126, u127, u128, u129, u130, u131, u132, u133, u134, u135, u136, u137, u138, u139, u140, u141, u142, u143, u144, u145, u146, u147, u148, u149, u150, u151, u152, u153, u154, u155, u156, u157, u158, u159, u160, u161, u162, u163, u164, u165, u166, u167, u168, u169, u170, u171, u172, u173, u174, u175, u176, u177, u178, u179, u180, u181, u182, u183, u184, u185, u186, u187, u188, u189, u190, u191, u192, u193, u194, u195, u196, u197, u198, u199, u200, u201, u202, u203, u204, u205, u206, u207, u208, u209, u210, u211, u212, u213, u214, u215, u216, u217, u218, u219, u220, u221, u222, u223, u224, u225, u226, u227, u228, u229, u230, u231, u232, u233, u234, u235, u236, u237, u238, u239, u240, u241, u242, u243, u244, u245, u246, u247, u248, u249, u250, u251, u252, u253, u254, u255, u256, u257, u258, u259, u260, u261, u262, u263, u264], []⟩ w := by
  conv => arg 2; whnf
  have hs0 : w0.heap.size ≤ w.heap.size := hB.size
  have hbl := hbx.lt
  have hL1 : 1 ≤ L := by have := (validForm_bounds hval).1; simp only at this; omega
  have kL : I64 (L : Int) := by constructor <;> omega
  have HSM : Hid (SmallII cs) := small_few (n := 9) h9 (by decide) h3
  have HK : Hid (∀ wx, Below w.heap.size w wx → TwoC wx b 26 (.int .i64 L) (.slice fa cs.length fc)) := fun wx hx => hbx.below hx hbl
  have HI : Hid (∀ wx, Below w.heap.size w wx → Intss wx 0 w.heap.size (.slice fa cs.length fc) cs) := fun wx hx => hcs.below hx (Nat.le_refl _)
  have HF : Hid (∀ wx, Below w.heap.size w wx → FormR wx 0 wx.heap.size (.agg #[.int .i64 L, .slice fa cs.length fc]) ⟨L, cs⟩) := fun wx hx => ⟨⟨_, rfl, (HI.out wx hx).mono (Nat.le_refl _) hx.size (Nat.le_refl _)⟩, kL⟩
  have HB := Lib.hid hB
  have HY0 := Lib.hid h0
  have HY1 := Lib.hid h1
  have HV := Lib.hid hval
  have H3 := Lib.hid h3
  have q0 := hbx.c0
  have q1 := hbx.c1
  clear h0 h1 hB hbx hcs h3 hval
  obtain ⟨core, two, hco⟩ : ∃ core two, coreF ⟨(L : Int), cs⟩ = (core, two) := ⟨_, _, rfl⟩
  have hcf : (two = true → countN L cs (2 ^ L) = 0 ∧ CoreOk L cs core) ∧ (two = false → countN L cs (2 ^ L) ≠ 0) := by
    have e : okCore ⟨(L : Int), cs⟩ = decide (countN L cs (2 ^ L) = 0) := by
      unfold okCore
      simp only [Int.toNat_natCast]
      rw [HV.out, hasM_count, Bool.true_and, Bool.eq_iff_iff, Bool.not_eq_true', decide_eq_false_iff_not, decide_eq_true_eq]
      omega
    by_cases h0 : countN L cs (2 ^ L) = 0
    · have ht : okCore ⟨(L : Int), cs⟩ = true := by rw [e, decide_eq_true h0]
      rw [coreF_yes ht] at hco
      simp only [Int.toNat_natCast] at hco
      injection hco with g1 g2
      subst g1 g2
      exact ⟨fun _ => ⟨h0, coreOk (by rw [hasM_count]; exact decide_eq_false (by omega))⟩, fun h => by cases h⟩
    · have ht : okCore ⟨(L : Int), cs⟩ = false := by rw [e, decide_eq_false h0]
      rw [coreF_no ht] at hco
      injection hco with g1 g2
      subst g1 g2
      exact ⟨fun h => (by cases h), fun _ => h0⟩
  have HCO := Lib.hid hco
  have HCF := Lib.hid hcf
  obtain ⟨cN, hcN⟩ : ∃ cN : Int, cN = ((countN L cs (2 ^ L) : Nat) : Int) := ⟨_, rfl⟩
  have HCN := Lib.hid hcN
  rw [← hcN]
  clear hco hcf hcN
  go_wp2_with fail
  refine (implCoreOf_any w _ ⟨(L : Int), cs⟩ (HF.out w (Below.refl _ _)) (Nat.le_refl _) HSM.out).mono ?_
  rintro e w2 ⟨r, he, hr, hb2⟩
  rw [HCO.out] at he hr
  subst he
  simp only at hr
  have HR := Lib.hid hr
  have HB2 := Lib.hid hb2
  have hz2 : w.heap.size ≤ w2.heap.size := hb2.size
  obtain ⟨ra, rc, hre⟩ := hr.shape2
  obtain ⟨cl, hcl⟩ : ∃ n, n = core.length := ⟨_, rfl⟩
  rw [← hcl] at hre
  have HCL := Lib.hid hcl
  subst hre
  have q0 := (HK.out w2 hb2).c0
  have q1 := (HK.out w2 hb2).c1
  clear hr hb2 hcl
  cases two
  · have hc0 : cN ≠ 0 := by have := HCF.out.2 rfl; rw [HCN.out]; omega
    have g1 : (cN == 0) = false := by simp; exact hc0
    go_wp2_with fail
    conv => arg 2; whnf
    go_upto_region 37 with (fail)
    rw [HCN.out]
    exact join_part (by assumption) (proofsM w0 w2 (HB.out.trans (HB2.out.mono hs0)) HY0.out HY1.out (HK.out w2 HB2.out) ((HI.out w2 HB2.out).mono (Nat.le_refl _) (HB2.out).size (Nat.le_refl _)) HV.out h9 H3.out h5)
  · obtain ⟨hc0, hCO⟩ := HCF.out.1 rfl
    have HOK := Lib.hid hCO
    have HC0 : Hid (cN = 0) := by rw [Hid, HCN.out, hc0]; rfl
    have g1 : (cN == 0) = true := by simp; exact HC0.out
    have hcl9 : cl ≤ 9 := by have := hCO.len; rw [HCL.out]; omega
    clear hCO hc0
    go_wp2_with fail
    conv => arg 2; whnf
    go_wp2_with fail
    conv => arg 2; whnf
    go_wp2_with fail
    go_loopw [15] (fun lv wr => ∃ z : Int, lv = .int .i64 z ∧ -1 ≤ z ∧ z ≤ (cl : Int) ∧ Below w2.heap.size w2 wr) (fun lv _ => ((cl : Int) - intOf lv).toNat)
    case atStart => exact ⟨-1, rfl, by omega, by omega, Below.refl _ _⟩
    case round =>
      obtain ⟨z, rfl, hz1, hzc, hbr⟩ := hrel
      have HBR := Lib.hid hbr
      have hsr : w2.heap.size ≤ wr.heap.size := hbr.size
      have HBRw := Lib.hid (HB2.out.trans (hbr.mono hz2))
      have q0 := (HK.out wr HBRw.out).c0
      have q1 := (HK.out wr HBRw.out).c1
      by_cases hlt : z < (cl : Int)
      · have hnl : ¬ (cl : Int) ≤ z := by omega
        obtain ⟨wo, hwo⟩ : ∃ X, X = wr.alloc (.cells #[.int .i64 (L : Int), .slice none 0 0] 26) := ⟨_, rfl⟩
        obtain ⟨zp, hzp⟩ : ∃ b, b = wr.heap.size := ⟨_, rfl⟩
        have hbt : TwoC wo zp 26 (.int .i64 (L : Int)) (.slice none 0 0) := by rw [hwo, hzp]; exact TwoC.new _ _ _ _
        have hzp2 : w2.heap.size ≤ zp := by omega
        have hbo : Below w2.heap.size w2 wo := by rw [hwo]; exact hbr.trans ((alloc_below _ _).mono hsr)
        have hbo2 := hbo.size
        have hrv : RefV wo w2.heap.size (fun p => w2.heap.size ≤ p) (.slice none 0 0) (partTo cs core z 0) := by
          refine ⟨⟨[], rfl, Own.nil _ _ _ _ _ (Nat.le_refl _), fun i h => by simp [partTo] at h⟩, hbo2⟩
        have HBO := Lib.hid hbo
        have HBT := Lib.hid hbt
        have HRV := Lib.hid hrv
        clear hbt hbo hrv
        go_upto_region 26 with (fail)
        rw [← hwo, ← hzp]
        clear hwo hzp
        go_wp2_with fail
        go_loopw [131] (fun iv wr => ∃ (k : Nat) (v : Value), k ≤ cl ∧ iv = .int .i64 k ∧ TwoC wr zp 26 (.int .i64 (L : Int)) v ∧ RefV wr w2.heap.size (fun p => w2.heap.size ≤ p) v (partTo cs core z k) ∧ Hid (v.ownBlock ≠ some zp) ∧ Below w2.heap.size w2 wr) (fun iv _ => cl - (intOf iv).toNat)
        case atStart => exact ⟨0, _, Nat.zero_le _, rfl, HBT.out, HRV.out, Lib.hid (by simp [Value.ownBlock]), HBO.out⟩
        case round =>
          clear q0 q1
          obtain ⟨k, v, hk, rfl, hbt, hrv, HNE, hb3⟩ := hrel
          have HBT3 := Lib.hid hbt
          have HRV3 := Lib.hid hrv
          have HB3 := Lib.hid hb3
          have hs3 : w2.heap.size ≤ wr.heap.size := hb3.size
          have HB3w := Lib.hid (HB2.out.trans (hb3.mono hz2))
          have q0 := (HK.out wr HB3w.out).c0
          have q1 := (HK.out wr HB3w.out).c1
          have hpl := partTo_len cs core z k
          obtain ⟨va, vc, hve, _⟩ := hrv.shape
          obtain ⟨pl, hplE⟩ : ∃ n, n = (partTo cs core z k).length := ⟨_, rfl⟩
          rw [← hplE] at hve hpl
          subst hve
          have HPL := Lib.hid hplE
          clear hbt hrv hb3 hplE
          by_cases hkl : k < cl
          · have hkc : k < core.length := by rw [← HCL.out]; exact hkl
            have hrg := HOK.out.rng k hkc
            rcases (HR.out.below HB3.out (Nat.le_refl _)).rd.out with ⟨ga, gc, ge, _, _, hd⟩
            rw [← HCL.out] at ge
            injection ge with x1 x2 x3
            subst x1 x3
            rcases hd with hd | ⟨gb, go, rfl, _, _, _, hcell⟩
            · rw [hd] at hkc; simp at hkc
            have hck := hcell k hkc
            obtain ⟨x, hx⟩ : ∃ x : Nat, core.getD k 0 = (x : Int) := ⟨(core.getD k 0).toNat, by omega⟩
            rw [hx] at hck hrg
            have hxl : x < cs.length := by omega
            have hup := HOK.out.up k
            rw [hx] at hup
            obtain ⟨fa', fc', V, fe, _, _, hV, hfd⟩ := (HI.out wr HB3w.out).out
            injection fe with y1 y2 y3
            subst y1 y3
            rcases hfd with hfd | ⟨fb, fo, rfl, _, _, _, hfcell⟩
            · rw [hfd] at hxl; simp at hxl
            have hfk := hfcell x hxl
            have hVr := hV x hxl
            obtain ⟨Va, Vc, hVe, _, _, _⟩ := hVr.out
            have hps := partTo_succ cs core z k
            rw [hx, Int.toNat_natCast, getD_get hxl] at hps
            obtain ⟨row, hrow⟩ : ∃ row, row = cs[x] := ⟨_, rfl⟩
            rw [← hrow] at hVr hVe hps
            obtain ⟨rl, hrl⟩ : ∃ n, n = row.length := ⟨_, rfl⟩
            rw [← hrl] at hVe
            rw [hVe] at hVr hfk
            have HVR := Lib.hid hVr
            have HPS := Lib.hid hps
            have hkw : (k : Int) < 100 := by omega
            have p0 := HBT3.out.c0
            have p1 := HBT3.out.c1
            have pf1 := HBT3.out.f1
            have HCK := Lib.hid hck
            have HFK := Lib.hid hfk
            have hxi : ¬ ((x : Int) < 0) := by omega
            have hxi2 : ¬ ((cs.length : Int) ≤ (x : Int)) := by omega
            have hxi3 : ¬ cs.length ≤ x := by omega
            have hprev : 0 < k → ∃ yv : Int, wr.cell? ⟨gb, go + (k - 1), none⟩ = some (.int .i64 yv) ∧ yv < (x : Int) := by
              intro h0
              exact ⟨_, hcell (k - 1) (by omega), hup h0 hkc⟩
            clear hcell hfcell hV hVe hVr hps hrow hrl hup x2 y2 hx
            cases hk0 : decide (0 < k)
            · obtain rfl : k = 0 := by have := of_decide_eq_false hk0; omega
              rw [Nat.add_zero] at hck
              have HCK : Hid (wr.cell? ⟨gb, go, none⟩ = some (.int .i64 (x : Int))) := hck
              clear hk0 hprev
              go_upto_region 29 with (fail)
              refine reg29a wr q0 q1 hcl9 hkl hck hxi hxi2 hxi3 _ _ ?_
              intro wa x134 x135 x136 x137 x138 x139 x140 x141 x142 x143 x144 x145 x146 x147 x148 x149 x150 x151 x152 x153 x154 x155 x156 x157 x158 x159 x160 x161 x162 x163 hDa
              have HBa := Lib.hid (HB3.out.trans (hDa.below _))
              have HBTa := Lib.hid (HBT3.out.drew hDa)
              have HRVa := Lib.hid (HRV3.out.drew hDa)
              have hcka : wa.cell? ⟨gb, go, none⟩ = some (.int .i64 (x : Int)) := by rw [hDa.cell]; exact HCK.out
              have hfka : wa.cell? ⟨fb, fo + x, none⟩ = some (.slice Va rl Vc) := by rw [hDa.cell]; exact HFK.out
              have hq1a : wa.cell? ⟨b, 1, none⟩ = some (.slice (some ⟨fb, fo, none⟩) cs.length fc) := by rw [hDa.cell]; exact q1
              have HVRa := Lib.hid (((HVR.out.drew hDa)).mono (hi' := w2.heap.size) (Nat.le_refl _) hz2 (by rw [hDa.heap]; exact hs3))
              have hs4 : w2.heap.size ≤ wa.heap.size := by rw [hDa.heap]; exact hs3
              have HCKA := Lib.hid hcka
              have HFKA := Lib.hid hfka
              have HQ1A := Lib.hid hq1a
              clear hDa hcka hfka hq1a hck hfk
              by_cases hzk : ((0 : Nat) : Int) = z
              · have HPE : Hid (partTo cs core z (0 + 1) = partTo cs core z (0)) := by rw [Hid, HPS.out, if_pos hzk]
                have g5 : (((0 : Nat) : Int) != z) = false := by simp; exact hzk
                have g6 : ((0 : Int) != z) = false := by simp; omega
                clear hzk
                go_wp2
                go_roundw
                case rel => exact ⟨0 + 1, _, by omega, by go_num, HBTa.out, by rw [HPE.out]; exact HRVa.out, HNE, HBa.out⟩
                case measure => simp [intOf]; omega
              · have HPE : Hid (partTo cs core z (0 + 1) = partTo cs core z (0) ++ [row]) := by rw [Hid, HPS.out, if_neg hzk]
                have g5 : (((0 : Nat) : Int) != z) = true := by simp; exact hzk
                have g6 : ((0 : Int) != z) = true := by simp; omega
                clear hzk
                go_upto_region 32 with (fail)
                refine reg32 (lo := w2.heap.size) (cl := cl) (rc := rc) (gb := gb) (go := go) (x := x) (zp := zp) (row := row) (k := 0) (iv := (0 : Int)) wa HBTa.out HRVa.out HPL.out HNE.out hzp2 (by omega) (by omega) (by omega) HQ1A.out (by rw [Nat.add_zero]; exact HCKA.out) HFKA.out HVRa.out (by omega) (by omega) (by omega) (by omega) (by have := partTo_len cs core z (0); omega) _ ?_
                intro v9 w9 x168 x169 x170 x171 x172 x173 x174 x175 x176 x177 x178 x179 x180 hz9 hr9 hn9 hb9
                have HZ9 := Lib.hid hz9
                have HR9 := Lib.hid hr9
                have HN9 := Lib.hid hn9
                have HB9 := Lib.hid (HBa.out.trans hb9)
                clear hz9 hr9 hn9 hb9
                dsimp only [Exit.inBlock, Exit.then]
                go_wp2
                go_roundw
                case rel => exact ⟨0 + 1, _, by omega, by go_num, HZ9.out, by rw [HPE.out]; exact HR9.out, HN9, HB9.out⟩
                case measure => simp [intOf]; omega
            · have hk1 : 0 < k := of_decide_eq_true hk0
              obtain ⟨yv, hy1, hy2⟩ := hprev hk1
              clear hk0 hprev
              obtain ⟨m, rfl⟩ : ∃ m, k = m + 1 := ⟨k - 1, by omega⟩
              rw [Nat.add_sub_cancel] at hy1
              have hyx : ¬ (x : Int) ≤ yv := by omega
              go_upto_region 29 with (fail)
              refine reg29b wr q0 q1 hcl9 hkl hck hy1 hyx hxi hxi2 hxi3 _ _ ?_
              intro wa x134 x135 x136 x137 x138 x139 x140 x141 x142 x143 x144 x145 x146 x147 x148 x149 x150 x151 x152 x153 x154 x155 x156 x157 x158 x159 x160 x161 x162 x163 hDa
              have HBa := Lib.hid (HB3.out.trans (hDa.below _))
              have HBTa := Lib.hid (HBT3.out.drew hDa)
              have HRVa := Lib.hid (HRV3.out.drew hDa)
              have hcka : wa.cell? ⟨gb, go + (m + 1), none⟩ = some (.int .i64 (x : Int)) := by rw [hDa.cell]; exact HCK.out
              have hfka : wa.cell? ⟨fb, fo + x, none⟩ = some (.slice Va rl Vc) := by rw [hDa.cell]; exact HFK.out
              have hq1a : wa.cell? ⟨b, 1, none⟩ = some (.slice (some ⟨fb, fo, none⟩) cs.length fc) := by rw [hDa.cell]; exact q1
              have HVRa := Lib.hid (((HVR.out.drew hDa)).mono (hi' := w2.heap.size) (Nat.le_refl _) hz2 (by rw [hDa.heap]; exact hs3))
              have hs4 : w2.heap.size ≤ wa.heap.size := by rw [hDa.heap]; exact hs3
              have HCKA := Lib.hid hcka
              have HFKA := Lib.hid hfka
              have HQ1A := Lib.hid hq1a
              clear hDa hcka hfka hq1a hck hfk
              by_cases hzk : (((m + 1) : Nat) : Int) = z
              · have HPE : Hid (partTo cs core z ((m + 1) + 1) = partTo cs core z ((m + 1))) := by rw [Hid, HPS.out, if_pos hzk]
                have g5 : ((((m + 1) : Nat) : Int) != z) = false := by simp; exact hzk
                have g6 : (((m : Int) + 1) != z) = false := by simp; omega
                clear hzk
                go_wp2
                go_roundw
                case rel => exact ⟨(m + 1) + 1, _, by omega, by go_num, HBTa.out, by rw [HPE.out]; exact HRVa.out, HNE, HBa.out⟩
                case measure => simp [intOf]; omega
              · have HPE : Hid (partTo cs core z ((m + 1) + 1) = partTo cs core z ((m + 1)) ++ [row]) := by rw [Hid, HPS.out, if_neg hzk]
                have g5 : ((((m + 1) : Nat) : Int) != z) = true := by simp; exact hzk
                have g6 : (((m : Int) + 1) != z) = true := by simp; omega
                clear hzk
                go_upto_region 32 with (fail)
                refine reg32 (lo := w2.heap.size) (cl := cl) (rc := rc) (gb := gb) (go := go) (x := x) (zp := zp) (row := row) (k := (m + 1)) (iv := (m : Int) + 1) wa HBTa.out HRVa.out HPL.out HNE.out hzp2 (by omega) (by omega) (by omega) HQ1A.out HCKA.out HFKA.out HVRa.out (by omega) (by omega) (by omega) (by omega) (by have := partTo_len cs core z ((m + 1)); omega) _ ?_
                intro v9 w9 x168 x169 x170 x171 x172 x173 x174 x175 x176 x177 x178 x179 x180 hz9 hr9 hn9 hb9
                have HZ9 := Lib.hid hz9
                have HR9 := Lib.hid hr9
                have HN9 := Lib.hid hn9
                have HB9 := Lib.hid (HBa.out.trans hb9)
                clear hz9 hr9 hn9 hb9
                dsimp only [Exit.inBlock, Exit.then]
                go_wp2
                go_roundw
                case rel => exact ⟨(m + 1) + 1, _, by omega, by go_num, HZ9.out, by rw [HPE.out]; exact HR9.out, HN9, HB9.out⟩
                case measure => simp [intOf]; omega
          · obtain rfl : k = cl := by omega
            have hPV : validForm ⟨(L : Int), partTo cs core z k⟩ = true := part_valid HV.out (partTo_mem HOK.out.rng k (by rw [HCL.out]; exact Nat.le_refl _)) (by have := partTo_len cs core z k; omega)
            have hPS : SmallII (partTo cs core z k) := small_few (n := 9) (by have := partTo_len cs core z k; omega) (by decide) (fun c hc => H3.out c (partTo_mem HOK.out.rng k (by rw [HCL.out]; exact Nat.le_refl _) c hc))
            have HPC := Lib.hid (count_val hPV)
            have HPS := Lib.hid hPS
            have hrd := HRV3.out.rd
            obtain ⟨pn, hpn⟩ : ∃ pn, pn = countN L (partTo cs core z k) (2 ^ L) := ⟨_, rfl⟩
            have hz0 : ((pn : Int) == 0) = decide (z < 0) := by
              by_cases hzn : z < 0
              · obtain rfl : z = -1 := by omega
                have := HOK.out.all
                rw [← HCL.out, ← hpn] at this
                rw [this]; rfl
              · obtain ⟨j, rfl⟩ : ∃ j : Nat, z = (j : Int) := ⟨z.toNat, by omega⟩
                have := HOK.out.less j (by rw [← HCL.out]; omega)
                rw [← HCL.out, ← hpn] at this
                rw [decide_eq_false hzn]
                simp; omega
            rw [← hpn] at HPC
            have HRD : Hid (Intss wr 0 wr.heap.size (.slice va pl vc) (partTo cs core z k)) := HRV3.out.rd
            have p0 := HBT3.out.c0
            have p1 := HBT3.out.c1
            clear hrd hPV hPS hpn
            go_upto_region 34 with (fail)
            go_wp2_with fail
            refine (specCountModels_any wr (.agg #[.int .i64 (L : Int), .slice va pl vc]) ⟨(L : Int), partTo cs core z k⟩ ⟨⟨_, rfl, HRD.out⟩, kL⟩ (Nat.le_refl _) HPS.out).mono ?_
            rintro e w7 ⟨he, hb7⟩
            rw [HPC.out] at he
            subst he
            have HB7 := Lib.hid (HB3.out.trans (hb7.mono hs3))
            clear hb7 hpl
            by_cases hzn : z < 0
            · have g1 : ((pn : Int) == 0) = true := by rw [hz0, decide_eq_true hzn]
              clear hz0
              go_wp2
              go_roundw
              case rel => exact ⟨z + 1, by go_num, by omega, by omega, HB7.out⟩
              case measure => simp [intOf]; omega
            · have g1 : ((pn : Int) == 0) = false := by rw [hz0, decide_eq_false hzn]
              clear hz0
              go_wp2
              go_roundw
              case rel => exact ⟨z + 1, by go_num, by omega, by omega, HB7.out⟩
              case measure => simp [intOf]; omega
      · obtain rfl : z = (cl : Int) := by omega
        go_upto_region 37 with (fail)
        rw [HCN.out]
        exact join_part (by assumption) (proofsM w0 wr (HB.out.trans (HBRw.out.mono hs0)) HY0.out HY1.out (HK.out wr HBRw.out) ((HI.out wr HBRw.out).mono (Nat.le_refl _) (HBRw.out).size (Nat.le_refl _)) HV.out h9 H3.out h5)
end Go.Proofs.Ytcpbgjnijhcpkaa

namespace Go.Proofs.Ytcpbgjnijhcpkaa
open Go.ChangeShapes Go.WideShapes Go.ChangeAt Go.RowKit
set_option linter.unusedVariables false
set_option maxRecDepth 100000

theorem rises_len {L : Int} : ∀ (zs : List Int) (p : Int), risesFrom L p zs = true → 0 ≤ p → p ≤ L → (zs.length : Int) ≤ L - p := by
  intro zs
  induction zs with
  | nil => intro p _ _ h; simp; omega
  | cons x r ih =>
    intro p h h0 h1
    rw [risesFrom, Bool.and_eq_true, Bool.and_eq_true, decide_eq_true_eq] at h
    have h2 := absI_le h.1.1
    have := ih (absI x) h.2 (by omega) h2.2
    have := h.1.2
    simp only [List.length_cons]
    omega
theorem clause_len {L : Nat} {c : List Int} (h : isClause (L : Int) c = true) (hL : L ≤ 10) : c.length ≤ 10 := by
  unfold isClause at h
  rw [Bool.and_eq_true] at h
  have := rises_len c 0 h.2 (by omega) (by omega)
  omega
set_option maxHeartbeats 4000000 in
set_option maxRecDepth 100000 in
theorem proofsO (w0 w : World) {u2 u3 u4 u7 u9 u12 u13 u14 u15 u16 u17 u18 u19 u20 u21 u22 u23 u24 u25 u26 u27 u28 u29 u30 u31 u32 u33 u34 u35 u36 u37 u38 u39 u40 u41 u42 u43 u44 u45 u46 u47 u48 u49 u50 u51 u52 u53 u54 u55 u56 u57 u58 u59 u60 u61 u62 u63 u64 u65 u66 u67 u68 u69 u70 u71 u72 u73 u74 u75 u76 u77 u78 u79 u80 u81 u82 u83 u84 u85 u86 u87 u88 u89 u90 u91 u92 u93 u94 u95 u96 u97 u98 u99 u100 u101 u102 u103 u104 u105 u106 u107 u108 u109 u110 u111 u112 u113 u114 u115 u116 u117 u118 u119 u120 u121 u122 u123 u124 u125 u126 u127 u128 u129 u130 u131 u132 u133 u134 u135 u136 u137 u138 u139 u140 u141 u142 u143 u144 u145 u146 u147 u148 u149 u150 u151 u152 u153 u154 u155 u156 u157 u158 u159 u160 u161 u162 u163 u164 u165 u166 u167 u168 u169 u170 u171 u172 u173 u174 u175 u176 u177 u178 u179 u180 u181 u182 u183 u184 u185 u186 u187 u188 u189 u190 u191 u192 u193 u194 u195 u196 u197 u198 u199 u200 u201 u202 u203 u204 u205 u206 u207 u208 u209 u210 u211 u212 u213 u214 u215 u216 u217 u218 u219 u220 u221 u222 u223 u224 u225 u226 u227 u228 u229 u230 u231 u232 u233 u234 u235 u236 u237 u238 u239 u240 u241 u242 u243 u244 u245 u246 u247 u248 u249 u250 u251 u252 u253 u254 u255 u256 u257 u258 u259 u260 u261 u262 u263 u264 : Value} {v0 v1 : Value} {z0 z1 : List Int} (hB : Below w0.heap.size w0 w) (h0 : Byts w0 0 w0.heap.size v0 z0) (h1 : Byts w0 0 w0.heap.size v1 z1) {b L : Nat} {cs : List (List Int)} {fa : Option Addr} {fc : Nat} (hbx : TwoC w b 26 (.int .i64 (L : Int)) (.slice fa cs.length fc)) (hcs : Intss w 0 w.heap.size (.slice fa cs.length fc) cs) (hval : validForm ⟨(L : Int), cs⟩ = true) (h9 : cs.length ≤ 9) (h3 : ∀ c ∈ cs, c.length ≤ 3) (h5 : L ≤ 5) {wv pv : Value} {P : List (List Int)} {lb : Bool} (hpf : proveNoF ⟨(L : Int), cs⟩ = (P, lb)) (hpw : Intss w 0 w.heap.size wv P) (hpi : Intss w 0 w.heap.size pv P) :
    Code.wp Try.prog (hdC (tlC 7 bodyOf)) (Exit.then (Code.wp Try.prog (tlC 8 bodyOf) (bodyPost Try.prog Try.f3 fun e w' => e = .returned (.bool true) ∧ Below w0.heap.size w0 w')) (bodyPost Try.prog Try.f3 fun e w' => e = .returned (.bool true) ∧ Below w0.heap.size w0 w')) ⟨#[v0, v1, u2, u3, u4, (.pointer (some ⟨b, 0, none⟩)), (.int .i64 ((countN L cs (2 ^ L) : Nat) : Int)), u7, wv, u9, pv, (.bool lb), u12, u13, u14, u15, u16, u17, u18, u19, u20, u21, u22, u23, u24, u25, u26, u27, u28, u29, u30, u31, u32, u33, u34, u35, u36, u37, u38, u39, u40, u41, u42, u43, u44, u45, u46, u47, u48, u49, u50, u51, u52, u53, u54, u55, u56, u57, u58, u59, u60, u61, u62, u63, u64, u65, u66, u67, u68, u69, u70, u71, u72, u73, u74, u75, u76, u77, u78, u79, u80, u81, u82, u83, u84, u85, u86, u87, u88, u89, u90, u91, u92, u93, u94, u95, u96, u97, u98, u99, u100, u101, u102, u103, u104, u105, u106, u107, u108, u109, u110, u111, u112, u113, u114, u115, u116, u117, u118, u119, u120, u121, u122, u123, u124, u125, u126, u127, u128, u129, u130, u131, u132, u133, u134, u135, u136, u137, u138, u139, u140, u141, u142, u143, u144, u145, u146, u147, u148, u149, u150, u151, u152, u153, u154, u155, u156, u157, u158, u159, u160, u161, u162, u163, u164, u165, u166, u167, u168, u169, u170, u171, u172, u173, u174, u175, u176, u177, u178, u179, u180, u181, u182, u183, u184, u185, u186, u187, u188, u189, u190, u191, u192, u193, u194, u195, u196, u197, u198, u199, u200, u201, u202, u203, u204, u205, u206, u207, u208, u209, u210, u211, u212, u213, u214, u215, u216, u217, u218, u219, u220, u221, u222, u223, u224, u225, u226, u227, u228, u229, u230, u231, u232, u233, u234, u235, u236, u237, u238, u239, u240, u241, u242, u243, u244, u245, u246, u247, u248, u249, u250, u251, u252, u253, u254, u255, u256, u257, u258, u259, u260, u261, u262, u263, u264], []⟩ w := by
  conv => arg 2; whnf
  have hs0 : w0.heap.size ≤ w.heap.size := hB.size
  have hbl := hbx.lt
  have hL1 : 1 ≤ L := by have := (validForm_bounds hval).1; simp only at this; omega
  have kL : I64 (L : Int) := by constructor <;> omega
  have HSM : Hid (SmallII cs) := small_few (n := 9) h9 (by decide) h3
  have HK : Hid (∀ wx, Below w.heap.size w wx → TwoC wx b 26 (.int .i64 L) (.slice fa cs.length fc)) := fun wx hx => hbx.below hx hbl
  have HI : Hid (∀ wx, Below w.heap.size w wx → Intss wx 0 w.heap.size (.slice fa cs.length fc) cs) := fun wx hx => hcs.below hx (Nat.le_refl _)
  have HF : Hid (∀ wx, Below w.heap.size w wx → FormR wx 0 wx.heap.size (.agg #[.int .i64 L, .slice fa cs.length fc]) ⟨L, cs⟩) := fun wx hx => ⟨⟨_, rfl, (HI.out wx hx).mono (Nat.le_refl _) hx.size (Nat.le_refl _)⟩, kL⟩
  have HB := Lib.hid hB
  have HY0 := Lib.hid h0
  have HY1 := Lib.hid h1
  have HV := Lib.hid hval
  have H3 := Lib.hid h3
  have q0 := hbx.c0
  have q1 := hbx.c1
  clear h0 h1 hB hbx hcs h3 hval
  have HPW := Lib.hid hpw
  have HPI := Lib.hid hpi
  have hle : ∃ P0, P0 = proveNoF ⟨(L : Int), cs⟩ := ⟨_, rfl⟩
  clear hpw hpi
  cases lb
  · clear hle
    go_wp2_with fail
    conv => arg 2; whnf
    go_upto_region 18 with (fail)
    exact join_part (by assumption) (proofsN w0 w (HB.out.trans ((Below.refl w.heap.size w).mono hs0)) HY0.out HY1.out (HK.out w (Below.refl w.heap.size w)) ((HI.out w (Below.refl w.heap.size w)).mono (Nat.le_refl _) ((Below.refl w.heap.size w)).size (Nat.le_refl _)) HV.out h9 H3.out h5)
  · obtain ⟨P2, hP, hm, hp1, hp2, hc0, hall⟩ := proof_facts (f := ⟨(L : Int), cs⟩) (L := L) HV.out rfl (by rw [hpf])
    rw [hpf] at hP hp1 hall
    simp only at hP hp1 hall
    obtain ⟨m, hml⟩ : ∃ m, m = P2.length := ⟨_, rfl⟩
    have hPl : P.length = m + 1 := by rw [hP, hml]; simp
    have hrow10 : ∀ c ∈ P, c.length ≤ 10 := fun c hc => clause_len (hall c hc) (by omega)
    have hsp : SmallII P := ⟨by omega, by have := sum_le hrow10; omega⟩
    have hsq : SmallII P2 := ⟨by omega, by have := sum_le (K := 10) (l := P2) (fun c hc => hrow10 c (by rw [hP]; exact List.mem_append_left _ hc)); omega⟩
    have HSP := Lib.hid hsp
    have HSQ := Lib.hid hsq
    have HP1 := Lib.hid hp1
    have HP2 := Lib.hid hp2
    obtain ⟨pa, pc, PV, pe, c1, c2, hPV, hd⟩ := HPI.out.out
    rw [hPl] at pe
    subst pe
    obtain ⟨wa, wc, WV, we, d1, d2, hWV, hd2⟩ := HPW.out.out
    rw [hPl] at we
    subst we
    rcases hd with hd | ⟨pb, po, rfl, r1, r2, r3, hpc⟩
    · rw [hd] at hPl; simp at hPl
    rcases hd2 with hd2 | ⟨wb, wo, rfl, s1, s2, s3, hwc⟩
    · rw [hd2] at hPl; simp at hPl
    have hPQ : Intss w 0 w.heap.size (.slice (some ⟨pb, po, none⟩) m pc) P2 := by
      refine ⟨PV, ⟨some ⟨pb, po, none⟩, pc, by rw [← hml], by omega, c2, .inr ⟨pb, po, rfl, r1, r2, r3, fun i hi => hpc i (by omega)⟩⟩, fun i hi => ?_⟩
      have := hPV i (by omega)
      have e : P[i]'(by omega) = P2[i] := by simp only [hP]; exact List.getElem_append_left hi
      rw [← e]; exact this
    have HPQ := Lib.hid hPQ
    have hm1 : m + 1 ≤ pc := by omega
    have hm128 : m < 128 := by omega
    have hmP : P2.length = m := hml.symm
    have HPL := Lib.hid hPl
    have HPC := Lib.hid hpc
    have HWC := Lib.hid hwc
    have HPV := Lib.hid hPV
    have HWV := Lib.hid hWV
    have HLP : Hid (Intss w 0 w.heap.size (.slice (some ⟨pb, po, none⟩) (m + 1) pc) P) := HPI.out
    clear hsp hsq hp1 hp2 hall hrow10 hP hc0 hpc hwc hPV hWV hPQ hle hml hPl d1
    go_wp2_with fail
    conv => arg 2; whnf
    refine reg10 w (HK.out w (Below.refl _ _)) (HI.out w (Below.refl _ _)) kL HSM.out HLP.out HPQ.out HSP.out HSQ.out hm128 hmP hm1 c2 HP1.out HP2.out _ _ ?_
    intro w2 x61 x62 x63 x64 x65 x66 x67 x68 x69 x70 x71 x72 x73 x74 x75 x76 x77 x78 x79 x80 x81 x82 x83 x84 x85 x86 x87 x88 x89 x90 x91 x92 hb2
    have HB2 := Lib.hid hb2
    have hz2 : w.heap.size ≤ w2.heap.size := hb2.size
    have q0 := (HK.out w2 hb2).c0
    have q1 := (HK.out w2 hb2).c1
    clear hb2
    go_wp2_with fail
    go_loopw [96] (fun iv wr => ∃ k : Nat, k ≤ m + 1 ∧ iv = .int .i64 k ∧ Below w.heap.size w wr) (fun iv _ => m + 1 - (intOf iv).toNat)
    case atStart => exact ⟨0, Nat.zero_le _, rfl, HB2.out⟩
    case round =>
      obtain ⟨k, hk, rfl, hbr⟩ := hrel
      have HBR := Lib.hid hbr
      have hsr : w.heap.size ≤ wr.heap.size := hbr.size
      have q0 := (HK.out wr hbr).c0
      have q1 := (HK.out wr hbr).c1
      by_cases hlt : k < m + 1
      · have hkP : k < P.length := by rw [HPL.out]; exact hlt
        have p1 := (hbr.cell (p := ⟨pb, po + k, none⟩) r2).trans (HPC.out k hkP)
        have p2 := (hbr.cell (p := ⟨wb, wo + k, none⟩) s2).trans (HWC.out k hkP)
        have hi1 := (HPV.out k hkP).below hbr (Nat.le_refl _)
        have hi2 := (HWV.out k hkP).below hbr (Nat.le_refl _)
        obtain ⟨V1, hV1⟩ : ∃ V, V = PV k := ⟨_, rfl⟩
        obtain ⟨V2, hV2⟩ : ∃ V, V = WV k := ⟨_, rfl⟩
        rw [← hV1] at p1 hi1
        rw [← hV2] at p2 hi2
        obtain ⟨a1, n1, b1, hv1⟩ : ∃ a n c, V1 = .slice a n c := by obtain ⟨a, c, e, _⟩ := hi1.out; exact ⟨_, _, _, e⟩
        obtain ⟨a2, n2, b2, hv2⟩ : ∃ a n c, V2 = .slice a n c := by obtain ⟨a, c, e, _⟩ := hi2.out; exact ⟨_, _, _, e⟩
        subst hv1 hv2
        have HI1 := Lib.hid hi1
        have HI2 := Lib.hid hi2
        have hk1 : (k : Int) < (m : Int) + 1 := by omega
        have hk2 : ((k : Nat) : Int) < ((m + 1 : Nat) : Int) := by omega
        clear hbr hi1 hi2 hV1 hV2
        go_upto_region 15 with (fail)
        refine reg15 wr hlt hlt p1 p2 HI1.out HI2.out _ _ ?_
        intro w3 x99 x100 x101 x102 x103 x104 x105 x106 x107 hd3
        have HB3 := Lib.hid (HBR.out.trans (hd3.below _))
        clear hd3
        go_wp2
        go_roundw
        case rel => exact ⟨k + 1, by omega, by go_num, HB3.out⟩
        case measure => simp [intOf]; omega
      · obtain rfl : k = m + 1 := by omega
        go_wp2_with fail
        conv => arg 2; whnf
        go_upto_region 18 with (fail)
        exact join_part (by assumption) (proofsN w0 wr (HB.out.trans (HBR.out.mono hs0)) HY0.out HY1.out (HK.out wr HBR.out) ((HI.out wr HBR.out).mono (Nat.le_refl _) (HBR.out).size (Nat.le_refl _)) HV.out h9 H3.out h5)
set_option maxHeartbeats 4000000 in
set_option maxRecDepth 100000 in
theorem proofs6 (w0 w : World) {u2 u3 u4 u7 u12 u13 u14 u15 u16 u17 u18 u19 u20 u21 u22 u23 u24 u25 u26 u27 u28 u29 u30 u31 u32 u33 u34 u35 u36 u37 u38 u39 u40 u41 u42 u43 u44 u45 u46 u47 u48 u49 u50 u51 u52 u53 u54 u55 u56 u57 u58 u59 u60 u61 u62 u63 u64 u65 u66 u67 u68 u69 u70 u71 u72 u73 u74 u75 u76 u77 u78 u79 u80 u81 u82 u83 u84 u85 u86 u87 u88 u89 u90 u91 u92 u93 u94 u95 u96 u97 u98 u99 u100 u101 u102 u103 u104 u105 u106 u107 u108 u109 u110 u111 u112 u113 u114 u115 u116 u117 u118 u119 u120 u121 u122 u123 u124 u125 u126 u127 u128 u129 u130 u131 u132 u133 u134 u135 u136 u137 u138 u139 u140 u141 u142 u143 u144 u145 u146 u147 u148 u149 u150 u151 u152 u153 u154 u155 u156 u157 u158 u159 u160 u161 u162 u163 u164 u165 u166 u167 u168 u169 u170 u171 u172 u173 u174 u175 u176 u177 u178 u179 u180 u181 u182 u183 u184 u185 u186 u187 u188 u189 u190 u191 u192 u193 u194 u195 u196 u197 u198 u199 u200 u201 u202 u203 u204 u205 u206 u207 u208 u209 u210 u211 u212 u213 u214 u215 u216 u217 u218 u219 u220 u221 u222 u223 u224 u225 u226 u227 u228 u229 u230 u231 u232 u233 u234 u235 u236 u237 u238 u239 u240 u241 u242 u243 u244 u245 u246 u247 u248 u249 u250 u251 u252 u253 u254 u255 u256 u257 u258 u259 u260 u261 u262 u263 u264 : Value} {v0 v1 : Value} {z0 z1 : List Int} (hB : Below w0.heap.size w0 w) (h0 : Byts w0 0 w0.heap.size v0 z0) (h1 : Byts w0 0 w0.heap.size v1 z1) {b L : Nat} {cs : List (List Int)} {fa : Option Addr} {fc : Nat} (hbx : TwoC w b 26 (.int .i64 (L : Int)) (.slice fa cs.length fc)) (hcs : Intss w 0 w.heap.size (.slice fa cs.length fc) cs) (hval : validForm ⟨(L : Int), cs⟩ = true) (h9 : cs.length ≤ 9) (h3 : ∀ c ∈ cs, c.length ≤ 3) (h5 : L ≤ 5) {wv pv : Value} {P : List (List Int)} {lb : Bool} (hpf : proveNoF ⟨(L : Int), cs⟩ = (P, lb)) (hpw : Intss w 0 w.heap.size wv P) (hpi : Intss w 0 w.heap.size pv P) :
    Code.wp Try.prog (hdC (tlC 6 bodyOf)) (Exit.then (Code.wp Try.prog (tlC 7 bodyOf) (bodyPost Try.prog Try.f3 fun e w' => e = .returned (.bool true) ∧ Below w0.heap.size w0 w')) (bodyPost Try.prog Try.f3 fun e w' => e = .returned (.bool true) ∧ Below w0.heap.size w0 w')) ⟨#[v0, v1, u2, u3, u4, (.pointer (some ⟨b, 0, none⟩)), (.int .i64 ((countN L cs (2 ^ L) : Nat) : Int)), u7, wv, (.bool lb), pv, (.bool lb), u12, u13, u14, u15, u16, u17, u18, u19, u20, u21, u22, u23, u24, u25, u26, u27, u28, u29, u30, u31, u32, u33, u34, u35, u36, u37, u38, u39, u40, u41, u42, u43, u44, u45, u46, u47, u48, u49, u50, u51, u52, u53, u54, u55, u56, u57, u58, u59, u60, u61, u62, u63, u64, u65, u66, u67, u68, u69, u70, u71, u72, u73, u74, u75, u76, u77, u78, u79, u80, u81, u82, u83, u84, u85, u86, u87, u88, u89, u90, u91, u92, u93, u94, u95, u96, u97, u98, u99, u100, u101, u102, u103, u104, u105, u106, u107, u108, u109, u110, u111, u112, u113, u114, u115, u116, u117, u118, u119, u120, u121, u122, u123, u124, u125, u126, u127, u128, u129, u130, u131, u132, u133, u134, u135, u136, u137, u138, u139, u140, u141, u142, u143, u144, u145, u146, u147, u148, u149, u150, u151, u152, u153, u154, u155, u156, u157, u158, u159, u160, u161, u162, u163, u164, u165, u166, u167, u168, u169, u170, u171, u172, u173, u174, u175, u176, u177, u178, u179, u180, u181, u182, u183, u184, u185, u186, u187, u188, u189, u190, u191, u192, u193, u194, u195, u196, u197, u198, u199, u200, u201, u202, u203, u204, u205, u206, u207, u208, u209, u210, u211, u212, u213, u214, u215, u216, u217, u218, u219, u220, u221, u222, u223, u224, u225, u226, u227, u228, u229, u230, u231, u232, u233, u234, u235, u236, u237, u238, u239, u240, u241, u242, u243, u244, u245, u246, u247, u248, u249, u250, u251, u252, u253, u254, u255, u256, u257, u258, u259, u260, u261, u262, u263, u264], []⟩ w := by
  conv => arg 2; whnf
  have hs0 : w0.heap.size ≤ w.heap.size := hB.size
  have hbl := hbx.lt
  have hL1 : 1 ≤ L := by have := (validForm_bounds hval).1; simp only at this; omega
  have kL : I64 (L : Int) := by constructor <;> omega
  have HSM : Hid (SmallII cs) := small_few (n := 9) h9 (by decide) h3
  have HK : Hid (∀ wx, Below w.heap.size w wx → TwoC wx b 26 (.int .i64 L) (.slice fa cs.length fc)) := fun wx hx => hbx.below hx hbl
  have HI : Hid (∀ wx, Below w.heap.size w wx → Intss wx 0 w.heap.size (.slice fa cs.length fc) cs) := fun wx hx => hcs.below hx (Nat.le_refl _)
  have HF : Hid (∀ wx, Below w.heap.size w wx → FormR wx 0 wx.heap.size (.agg #[.int .i64 L, .slice fa cs.length fc]) ⟨L, cs⟩) := fun wx hx => ⟨⟨_, rfl, (HI.out wx hx).mono (Nat.le_refl _) hx.size (Nat.le_refl _)⟩, kL⟩
  have HB := Lib.hid hB
  have HY0 := Lib.hid h0
  have HY1 := Lib.hid h1
  have HV := Lib.hid hval
  have H3 := Lib.hid h3
  have q0 := hbx.c0
  have q1 := hbx.c1
  clear h0 h1 hB hbx hcs h3 hval
  have HPF := Lib.hid hpf
  have HPW := Lib.hid hpw
  have HPI := Lib.hid hpi
  obtain ⟨cN, hcN⟩ : ∃ cN : Int, cN = ((countN L cs (2 ^ L) : Nat) : Int) := ⟨_, rfl⟩
  have HC0 : Hid (lb = true → (cN != 0) = false) := by
    intro h
    obtain ⟨_, _, _, _, _, h0, _⟩ := proof_facts (f := ⟨(L : Int), cs⟩) (L := L) HV.out rfl (by rw [hpf]; exact h)
    rw [hcN, h0]; rfl
  have HCN := Lib.hid hcN
  rw [← hcN]
  clear hpf hpw hpi hcN
  cases lb
  · go_wp2_with fail
    conv => arg 2; whnf
    rw [HCN.out]
    refine wp_seq ?_
    exact (proofsO w0 w (HB.out.trans ((Below.refl w.heap.size w).mono hs0)) HY0.out HY1.out (HK.out w (Below.refl _ _)) (HI.out w (Below.refl _ _)) HV.out h9 H3.out h5 HPF.out HPW.out HPI.out)
  · have g1 := HC0.out rfl
    go_wp2_with fail
    conv => arg 2; whnf
    rw [HCN.out]
    refine wp_seq ?_
    exact (proofsO w0 w (HB.out.trans ((Below.refl w.heap.size w).mono hs0)) HY0.out HY1.out (HK.out w (Below.refl _ _)) (HI.out w (Below.refl _ _)) HV.out h9 H3.out h5 HPF.out HPW.out HPI.out)
set_option maxHeartbeats 4000000 in
set_option maxRecDepth 100000 in
theorem proofsP (w0 w : World) {u2 u3 u4 u7 u10 u11 u12 u13 u14 u15 u16 u17 u18 u19 u20 u21 u22 u23 u24 u25 u26 u27 u28 u29 u30 u31 u32 u33 u34 u35 u36 u37 u38 u39 u40 u41 u42 u43 u44 u45 u46 u47 u48 u49 u50 u51 u52 u53 u54 u55 u56 u57 u58 u59 u60 u61 u62 u63 u64 u65 u66 u67 u68 u69 u70 u71 u72 u73 u74 u75 u76 u77 u78 u79 u80 u81 u82 u83 u84 u85 u86 u87 u88 u89 u90 u91 u92 u93 u94 u95 u96 u97 u98 u99 u100 u101 u102 u103 u104 u105 u106 u107 u108 u109 u110 u111 u112 u113 u114 u115 u116 u117 u118 u119 u120 u121 u122 u123 u124 u125 u126 u127 u128 u129 u130 u131 u132 u133 u134 u135 u136 u137 u138 u139 u140 u141 u142 u143 u144 u145 u146 u147 u148 u149 u150 u151 u152 u153 u154 u155 u156 u157 u158 u159 u160 u161 u162 u163 u164 u165 u166 u167 u168 u169 u170 u171 u172 u173 u174 u175 u176 u177 u178 u179 u180 u181 u182 u183 u184 u185 u186 u187 u188 u189 u190 u191 u192 u193 u194 u195 u196 u197 u198 u199 u200 u201 u202 u203 u204 u205 u206 u207 u208 u209 u210 u211 u212 u213 u214 u215 u216 u217 u218 u219 u220 u221 u222 u223 u224 u225 u226 u227 u228 u229 u230 u231 u232 u233 u234 u235 u236 u237 u238 u239 u240 u241 u242 u243 u244 u245 u246 u247 u248 u249 u250 u251 u252 u253 u254 u255 u256 u257 u258 u259 u260 u261 u262 u263 u264 : Value} {v0 v1 : Value} {z0 z1 : List Int} (hB : Below w0.heap.size w0 w) (h0 : Byts w0 0 w0.heap.size v0 z0) (h1 : Byts w0 0 w0.heap.size v1 z1) {b L : Nat} {cs : List (List Int)} {fa : Option Addr} {fc : Nat} (hbx : TwoC w b 26 (.int .i64 (L : Int)) (.slice fa cs.length fc)) (hcs : Intss w 0 w.heap.size (.slice fa cs.length fc) cs) (hval : validForm ⟨(L : Int), cs⟩ = true) (h9 : cs.length ≤ 9) (h3 : ∀ c ∈ cs, c.length ≤ 3) (h5 : L ≤ 5) {wv : Value} {P : List (List Int)} {lb : Bool} (hpf : proveNoF ⟨(L : Int), cs⟩ = (P, lb)) (hpw : Intss w 0 w.heap.size wv P) :
    Code.wp Try.prog (hdC (tlC 5 bodyOf)) (Exit.then (Code.wp Try.prog (tlC 6 bodyOf) (bodyPost Try.prog Try.f3 fun e w' => e = .returned (.bool true) ∧ Below w0.heap.size w0 w')) (bodyPost Try.prog Try.f3 fun e w' => e = .returned (.bool true) ∧ Below w0.heap.size w0 w')) ⟨#[v0, v1, u2, u3, u4, (.pointer (some ⟨b, 0, none⟩)), (.int .i64 ((countN L cs (2 ^ L) : Nat) : Int)), u7, wv, (.bool lb), u10, u11, u12, u13, u14, u15, u16, u17, u18, u19, u20, u21, u22, u23, u24, u25, u26, u27, u28, u29, u30, u31, u32, u33, u34, u35, u36, u37, u38, u39, u40, u41, u42, u43, u44, u45, u46, u47, u48, u49, u50, u51, u52, u53, u54, u55, u56, u57, u58, u59, u60, u61, u62, u63, u64, u65, u66, u67, u68, u69, u70, u71, u72, u73, u74, u75, u76, u77, u78, u79, u80, u81, u82, u83, u84, u85, u86, u87, u88, u89, u90, u91, u92, u93, u94, u95, u96, u97, u98, u99, u100, u101, u102, u103, u104, u105, u106, u107, u108, u109, u110, u111, u112, u113, u114, u115, u116, u117, u118, u119, u120, u121, u122, u123, u124, u125, u126, u127, u128, u129, u130, u131, u132, u133, u134, u135, u136, u137, u138, u139, u140, u141, u142, u143, u144, u145, u146, u147, u148, u149, u150, u151, u152, u153, u154, u155, u156, u157, u158, u159, u160, u161, u162, u163, u164, u165, u166, u167, u168, u169, u170, u171, u172, u173, u174, u175, u176, u177, u178, u179, u180, u181, u182, u183, u184, u185, u186, u187, u188, u189, u190, u191, u192, u193, u194, u195, u196, u197, u198, u199, u200, u201, u202, u203, u204, u205, u206, u207, u208, u209, u210, u211, u212, u213, u214, u215, u216, u217, u218, u219, u220, u221, u222, u223, u224, u225, u226, u227, u228, u229, u230, u231, u232, u233, u234, u235, u236, u237, u238, u239, u240, u241, u242, u243, u244, u245, u246, u247, u248, u249, u250, u251, u252, u253, u254, u255, u256, u257, u258, u259, u260, u261, u262, u263, u264], []⟩ w := by
  conv => arg 2; whnf
  have hs0 : w0.heap.size ≤ w.heap.size := hB.size
  have hbl := hbx.lt
  have hL1 : 1 ≤ L := by have := (validForm_bounds hval).1; simp only at this; omega
  have kL : I64 (L : Int) := by constructor <;> omega
  have HSM : Hid (SmallII cs) := small_few (n := 9) h9 (by decide) h3
  have HK : Hid (∀ wx, Below w.heap.size w wx → TwoC wx b 26 (.int .i64 L) (.slice fa cs.length fc)) := fun wx hx => hbx.below hx hbl
  have HI : Hid (∀ wx, Below w.heap.size w wx → Intss wx 0 w.heap.size (.slice fa cs.length fc) cs) := fun wx hx => hcs.below hx (Nat.le_refl _)
  have HF : Hid (∀ wx, Below w.heap.size w wx → FormR wx 0 wx.heap.size (.agg #[.int .i64 L, .slice fa cs.length fc]) ⟨L, cs⟩) := fun wx hx => ⟨⟨_, rfl, (HI.out wx hx).mono (Nat.le_refl _) hx.size (Nat.le_refl _)⟩, kL⟩
  have HB := Lib.hid hB
  have HY0 := Lib.hid h0
  have HY1 := Lib.hid h1
  have HV := Lib.hid hval
  have H3 := Lib.hid h3
  have q0 := hbx.c0
  have q1 := hbx.c1
  clear h0 h1 hB hbx hcs h3 hval
  have HPF := Lib.hid hpf
  have HPW := Lib.hid hpw
  clear hpf hpw
  go_wp2_with fail
  refine (implProveNo_any w _ ⟨(L : Int), cs⟩ (HF.out w (Below.refl _ _)) (Nat.le_refl _) HSM.out).mono ?_
  rintro e w4 ⟨r2, he, hr2, hb4⟩
  rw [HPF.out] at he hr2
  subst he
  simp only at hr2
  have HB4 := Lib.hid hb4
  have HRA := Lib.hid ((HPW.out.below hb4 (Nat.le_refl _)).mono (Nat.zero_le _) hb4.size (Nat.le_refl _))
  have HRB := Lib.hid (hr2.rd.mono (Nat.zero_le _) (Nat.le_refl _) (Nat.le_refl _))
  have q0 := (HK.out w4 HB4.out).c0
  have q1 := (HK.out w4 HB4.out).c1
  clear hr2 hb4
  go_wp2_with fail
  conv => arg 2; whnf
  refine wp_seq ?_
  exact (proofs6 w0 w4 (HB.out.trans (HB4.out.mono hs0)) HY0.out HY1.out (HK.out w4 HB4.out) ((HI.out w4 HB4.out).mono (Nat.le_refl _) HB4.out.size (Nat.le_refl _)) HV.out h9 H3.out h5 HPF.out HRA.out HRB.out)
end Go.Proofs.Ytcpbgjnijhcpkaa

namespace Go.Proofs.Ytcpbgjnijhcpkaa
open Go.ChangeShapes Go.WideShapes Go.ChangeAt Go.RowKit
set_option linter.unusedVariables false
set_option maxRecDepth 100000

set_option maxHeartbeats 8000000 in
set_option maxRecDepth 100000 in
theorem FnProofs_walk (w : World) (v0 : Value) (z0 : List Int) (k0 : Byts w 0 w.heap.size v0 z0) (v1 : Value) (z1 : List Int) (k1 : Byts w 0 w.heap.size v1 z1) :
    Calls Try.prog 3 #[v0, v1] w fun e w' => e = .returned (.bool true) ∧ Below w.heap.size w w' := by
  have HLG := Lib.hid (b10Long_any v0 v1 z0 z1 w k0 k1)
  have HFM := Lib.hid (b10Form_any v0 z0 w k0 (Nat.le_refl _))
  have K0 := Lib.hid k0
  have K1 := Lib.hid k1
  clear k0 k1
  cases hlong : longF z0 z1
  rotate_left
  · rw [hlong] at HLG
    go_enter Try.func3, Try.ntmps3
    go_wp2_with fail
    refine HLG.out.mono ?_
    rintro e w' ⟨rfl, rfl⟩
    go_wp2
    go_ret
    exact ⟨rfl, Below.refl _ _⟩
  rw [hlong] at HLG
  clear hlong
  go_enter Try.func3, Try.ntmps3
  go_wp2_with fail
  refine HLG.out.mono ?_
  rintro e w' ⟨rfl, rfl⟩
  go_wp2_with fail
  refine HFM.out.mono ?_
  rintro e w1 ⟨u, ⟨Lz, cs⟩, rfl, hf, hdf, hb1⟩
  obtain ⟨hval, hL1, hL5, hC9, hC3⟩ := hdf
  simp only at hL1 hL5 hC9 hC3
  obtain ⟨L, rfl⟩ : ∃ L : Nat, Lz = (L : Int) := ⟨Lz.toNat, by omega⟩
  have hl1 : 1 ≤ L := by omega
  have hl5 : L ≤ 5 := by omega
  obtain ⟨u, rfl, hu⟩ := hf.ex
  obtain ⟨fa, fc, rfl⟩ := hu.shape
  simp only at hu
  have hwz : w.heap.size ≤ w1.heap.size := hb1.size
  obtain ⟨W, hW⟩ : ∃ X, X = w1.alloc (.cells #[.int .i64 L, .slice fa cs.length fc] 26) := ⟨_, rfl⟩
  obtain ⟨b, hbb⟩ : ∃ b, b = w1.heap.size := ⟨_, rfl⟩
  have hbx : TwoC W b 26 (.int .i64 L) (.slice fa cs.length fc) := by rw [hW, hbb]; exact TwoC.new _ _ _ _
  have hbW : Below w1.heap.size w1 W := by rw [hW]; exact alloc_below _ _
  have hcsW : Intss W 0 W.heap.size (.slice fa cs.length fc) cs := ((hu.below hbW (Nat.le_refl _)).rd).mono (Nat.zero_le _) hbW.size (Nat.le_refl _)
  have HBW := Lib.hid (hb1.trans (hbW.mono hwz))
  have hwW : w.heap.size ≤ W.heap.size := HBW.out.size
  have hbl := hbx.lt
  have kL : I64 (L : Int) := by constructor <;> omega
  have HK : Hid (∀ wx, Below W.heap.size W wx → TwoC wx b 26 (.int .i64 L) (.slice fa cs.length fc)) := fun wx hx => hbx.below hx hbl
  have HI : Hid (∀ wx, Below W.heap.size W wx → Intss wx 0 wx.heap.size (.slice fa cs.length fc) cs) := fun wx hx => (hcsW.below hx (Nat.le_refl _)).mono (Nat.zero_le _) hx.size (Nat.le_refl _)
  have HF : Hid (∀ wx, Below W.heap.size W wx → FormR wx 0 wx.heap.size (.agg #[.int .i64 L, .slice fa cs.length fc]) ⟨L, cs⟩) := fun wx hx => ⟨⟨_, rfl, HI.out wx hx⟩, kL⟩
  have HSM : Hid (SmallII cs) := small_few (n := 9) hC9 (by decide) hC3
  have HV := Lib.hid hval
  have H3 := Lib.hid hC3
  have h9 : cs.length ≤ 9 := hC9
  have HCV := Lib.hid (count_val hval)
  obtain ⟨cN, hcN⟩ : ∃ cN, cN = countN L cs (2 ^ L) := ⟨_, rfl⟩
  rw [← hcN] at HCV
  have HCN := Lib.hid hcN
  have q0 := hbx.c0
  have q1 := hbx.c1
  clear hval hf hu hbW hcsW hb1 hcN hL1 hL5 hC9 hC3 hbx
  go_upto_region 4 with (fail)
  rw [← hW, ← hbb]
  clear hW hbb
  go_wp2_with fail
  refine (specCountModels_any W _ ⟨(L : Int), cs⟩ (HF.out W (Below.refl _ _)) (Nat.le_refl _) HSM.out).mono ?_
  rintro e w2 ⟨he, hb2⟩
  rw [HCV.out] at he
  subst he
  have HB2 := Lib.hid hb2
  have q0 := (HK.out w2 hb2).c0
  have q1 := (HK.out w2 hb2).c1
  clear hb2
  go_wp2_with fail
  obtain ⟨P, lb, hpf⟩ : ∃ P lb, proveNoF ⟨(L : Int), cs⟩ = (P, lb) := ⟨_, _, rfl⟩
  have HPF := Lib.hid hpf
  clear hpf
  refine (specProveNo_any w2 _ ⟨(L : Int), cs⟩ (HF.out w2 HB2.out) (Nat.le_refl _) HSM.out).mono ?_
  rintro e w3 ⟨r, he, hr, hb3⟩
  rw [HPF.out] at he hr
  subst he
  simp only at hr
  have hz3 : w2.heap.size ≤ w3.heap.size := hb3.size
  have HB3 := Lib.hid (HB2.out.trans (hb3.mono HB2.out.size))
  have HR := Lib.hid (hr.rd.mono (Nat.zero_le _) (Nat.le_refl _) (Nat.le_refl _))
  have q0 := (HK.out w3 HB3.out).c0
  have q1 := (HK.out w3 HB3.out).c1
  clear hr hb3
  rw [HCN.out]
  go_upto_region 6 with (fail)
  exact join_part (by assumption) (proofsP w w3 (HBW.out.trans (HB3.out.mono hwW)) K0.out K1.out (HK.out w3 HB3.out) (HI.out w3 HB3.out) HV.out h9 H3.out hl5 HPF.out HR.out)

set_option maxRecDepth 100000 in
theorem FnProofs_lifted (os : Os) (started : os.Started) (H : Type) (enc : TypeId × Value → H) :
    ReturnsInHanded {} Try.checked os 3 .any (Rows.fnProofsSpec.pre6 enc Try.prog Try.f3 Rows.fnProofsRow.domain false) (Rows.fnProofsSpec.post enc Try.prog Try.f3 false true false false) := by
  refine returnsInHanded_of_change (C := Try.checked) own_knob started (by kernel_rfl) Try.func3
    (ChangeSpec.witness6 (enc := enc) (C := Try.checked) false ⟨#[], #[.slice none 0 0, .slice none 0 0], []⟩ 8 (by kernel_rfl) (by kernel_rfl) (by kernel_rfl) (by kernel_rfl)) ?_
  intro W base args ds gs before hval0 hW hcnd _
  have hval : ∀ (j : Nat) t v, Try.f3.params[j]? = some t → args[j]? = some v → Value.okWide Try.prog W .any base t v := hval0
  have hW' := hW
  obtain ⟨p, q, hA0, hV, rfl, hfz, hnd⟩ := hW
  have hA : DataW.TrodAll enc Try.prog W 0 (fun _ => true) true Try.f3.params.toList args.toList ds p := hA0
  rw [Try.params3] at hA hval
  obtain ⟨v0, vs0, d0, ds0, p0, q0, hargs, rfl, rfl, h0, r0⟩ := trodAll_cons hA
  obtain ⟨v1, vs1, d1, ds1, p1, q1, rfl, rfl, rfl, h1, r1⟩ := trodAll_cons r0
  obtain ⟨rfl, rfl, rfl⟩ := trodAll_nil r1
  obtain rfl : args = #[v0, v1] := by cases args; simp_all
  obtain ⟨rfl, rfl⟩ := trodVars_none hV
  have lt0 : ∀ x ∈ p0, x.block < W.heap.size := by obtain ⟨m, hm⟩ := h0; exact DataW.trod_lt m _ _ _ hm
  obtain ⟨z0, k0⟩ := open_Y (hval 0 22 v0 rfl rfl) h0
  have lt1 : ∀ x ∈ p1, x.block < W.heap.size := by obtain ⟨m, hm⟩ := h1; exact DataW.trod_lt m _ _ _ hm
  obtain ⟨z1, k1⟩ := open_Y (hval 1 22 v1 rfl rfl) h1
  clear hA0 hval0
  refine (FnProofs_walk W v0 z0 k0 v1 z1 k1).mono fun e W' ⟨he, bel⟩ => ?_
  subst he
  exact ⟨_, rfl, _, _, _, [], _, [], hW', trodAll_mk1 (shut_bool Try.underlying4 _), (trodAll_cons_mk (Below.trod laid_out (by kernel_rfl) (of_decide_eq_true (by kernel_rfl)) h0 bel lt0) (trodAll_cons_mk (Below.trod laid_out (by kernel_rfl) (of_decide_eq_true (by kernel_rfl)) h1 bel lt1) trodAll_mk0)), rfl, bel.frame _, fun h => by cases h⟩

theorem FnProofs_over : Rows.fnProofsRow.holds Try.pinned (OpenSpec.ofChange Rows.fnProofsSpec) :=
  OpenClaim.holds_of_wide 3 Try.f3 rfl rfl rfl rfl rfl rfl rfl ⟨rfl, rfl, rfl, rfl, rfl⟩ rfl rfl rfl rfl rfl (by kernel_rfl) Try.func3 (by kernel_rfl)
    (of_decide_eq_true (by kernel_rfl)) (by unfold Func.isWrapper; first | (rw [if_pos (by decide +kernel)]; kernel_rfl) | (rw [if_neg (by decide +kernel)]; exact ⟨rfl, rfl⟩))
    (fun os started H enc _ => FnProofs_lifted os started H enc)

/-- The statement. -/
theorem FnProofs_proved : Rows.FnProofsSaid := FnProofs_over

end Go.Proofs.Ytcpbgjnijhcpkaa

