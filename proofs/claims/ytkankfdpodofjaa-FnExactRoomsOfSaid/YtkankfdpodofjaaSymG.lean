/-
  The library's symMerge at []int64: two parts in order become one, in parts.
-/
import Derived.Test.YtkankfdpodofjaaSymM
namespace Go.Proofs.Ytkankfdpodofjaa
open Go.RowKit
set_option linter.unusedVariables false
set_option maxRecDepth 100000

def tlS : Nat → Code → Code
  | 0, c => c
  | n + 1, .seq _ b => tlS n b
  | _, c => c
def hdS : Code → Code
  | .seq a _ => a
  | c => c
theorem join_sym {P : Program} {x y : Code} {Q : Exit → Act → World → Prop} {a : Act} {w : World} {K : Act → World → Prop} (hK : ∀ a w, Code.wp P y Q a w → K a w)
    (h : Code.wp P x (Exit.then (Code.wp P y Q) Q) a w) : Code.wp P x (Exit.then K Q) a w :=
  Code.wp_mono (fun e a w h => by cases e <;> first | exact hK _ _ h | exact h) h
noncomputable def bodySym : Code := Try.f116.body.getD .skip
/-- what a merge comes to -/
def SymPost (lo g cp N : Nat) (key : Int → Int) (A : List Int) (a b : Nat) (w0 : World) (e : Ending) (w' : World) : Prop := e = .returned (.tuple #[]) ∧ ∃ R, RowI w' lo g N cp R ∧ Seg N A R a b ∧ SortR key R a b ∧ Same g (g + 1) w0 w'
def SymIH (F : FuncId) (cap : Array Value) (cf : Int → Int → Int) (key : Int → Int) (lo g cp N fuel : Nat) : Prop := ∀ (A : List Int) (w : World) (a m b : Nat), RowI w lo g N cp A → IdxR A N → a < m → m < b → b ≤ N → b - a ≤ fuel → CmpOk F cap cf g N w → SortR key A a m → SortR key A m b → Cross A a m b →
    Calls Try.prog 116 #[.slice (some ⟨g, 0, none⟩) N cp, .int .i64 a, .int .i64 m, .int .i64 b, .func (.func F) #[] cap] w (SymPost lo g cp N key A a b w)
theorem SymMid.at {key : Int → Int} {N : Nat} {A R : List Int} {a m b s M E : Nat} (h : SymMid key N A R a m b s) (hM : M = (a + b) / 2) (hE : E = M + m - s) : Seg N A R a b ∧ SortR key R a s ∧ SortR key R s M ∧ SortR key R M E ∧ SortR key R E b ∧ Cross R a s M ∧ Cross R M E b ∧ ∀ p q, a ≤ p → p < M → M ≤ q → q < b → LexLt key (at0 R p) (at0 R q) := by
  subst hE hM
  exact ⟨h.seg, h.s1, h.s2, h.s3, h.s4, h.c1, h.c2, h.mid⟩
set_option maxHeartbeats 4000000 in
set_option maxRecDepth 100000 in
theorem sym11 (w0 w : World) {u1 u2 u5 u6 u7 u8 u9 u10 u11 u12 u13 u14 u15 u16 u17 u19 u20 u21 u22 u23 u25 u26 u27 u28 u29 u30 u31 u32 u33 u34 u35 u36 u37 u38 u39 u40 u41 u42 u43 u44 u45 u46 u47 u48 u49 u50 u51 u52 u53 u54 u55 u56 u57 u58 u59 u60 u61 u62 u63 u64 u65 u66 u67 u68 u69 u70 u71 u72 u73 u74 u75 u76 u77 u78 u79 u80 u81 u82 u83 u84 u85 u86 u87 u88 u89 u90 u91 u92 u93 u94 u95 u96 u97 u98 u99 u100 u101 u102 u103 u104 u105 u106 u107 u108 u109 u110 u111 u112 u113 u114 u115 u116 u117 u118 u119 u120 u121 u122 u123 u124 u125 u126 u127 u128 u129 u130 u131 u132 u133 u134 u135 u136 u137 u138 u139 u140 u141 u142 u143 u144 u145 u146 u147 u148 u149 u150 u151 u152 u153 u154 u155 u156 u157 u158 u159 u160 u161 u162 u163 u164 u165 u166 u167 u168 u169 u170 u171 u172 u173 u174 u175 u176 u177 u178 u179 u180 u181 u182 u183 u184 u185 u186 u187 u188 u189 u190 u191 u192 u193 u194 u195 u196 u197 u198 u199 u200 u201 u202 u203 u204 u205 u206 u207 u208 u209 u210 u211 u212 u213 u214 u215 u216 u217 u218 u219 : Value} {F : FuncId} {cap : Array Value} {cf : Int → Int → Int} {key : Int → Int} {lo g cp N fuel : Nat} (hN : N ≤ 1000) (ih : SymIH F cap cf key lo g cp N fuel) {A R : List Int} {a m b M s E : Nat} (hfl : b - a ≤ fuel + 1) (hb : b ≤ N) (haM : a < M) (hMb : M < b) (hs0 : Same g (g + 1) w0 w) (hrow : RowI w lo g N cp R) (hidx : IdxR R N) (hcmp : CmpOk F cap cf g N w) (hE : M ≤ E) (hEb : E ≤ b) (hseg : Seg N A R a b) (g1 : SortR key R a M) (g3 : SortR key R M E) (g4 : SortR key R E b) (c2 : Cross R M E b) (mid : ∀ p q, a ≤ p → p < M → M ≤ q → q < b → LexLt key (at0 R p) (at0 R q)) :
    Code.wp Try.prog (tlS 11 bodySym) (bodyPost Try.prog Try.f116 (SymPost lo g cp N key A a b w0)) ⟨#[(.slice (some ⟨g, 0, none⟩) N cp), u1, u2, (.int .i64 (b : Int)), (.func (.func F) #[] cap), u5, u6, u7, u8, u9, u10, u11, u12, u13, u14, u15, u16, u17, (.int .i64 (M : Int)), u19, u20, u21, u22, u23, (.int .i64 (E : Int)), u25, u26, u27, u28, u29, u30, u31, u32, u33, u34, u35, u36, u37, u38, u39, u40, u41, u42, u43, u44, u45, u46, u47, u48, u49, u50, u51, u52, u53, u54, u55, u56, u57, u58, u59, u60, u61, u62, u63, u64, u65, u66, u67, u68, u69, u70, u71, u72, u73, u74, u75, u76, u77, u78, u79, u80, u81, u82, u83, u84, u85, u86, u87, u88, u89, u90, u91, u92, u93, u94, u95, u96, u97, u98, u99, u100, u101, u102, u103, u104, u105, u106, u107, u108, u109, u110, u111, u112, u113, u114, u115, u116, u117, u118, u119, u120, u121, u122, u123, u124, u125, u126, u127, u128, u129, u130, u131, u132, u133, u134, u135, u136, u137, u138, u139, u140, u141, u142, u143, u144, u145, u146, u147, u148, u149, u150, u151, u152, u153, u154, u155, u156, u157, u158, u159, u160, u161, u162, u163, u164, u165, u166, u167, u168, u169, u170, u171, u172, u173, u174, u175, u176, u177, u178, u179, u180, u181, u182, u183, u184, u185, u186, u187, u188, u189, u190, u191, u192, u193, u194, u195, u196, u197, u198, u199, u200, u201, u202, u203, u204, u205, u206, u207, u208, u209, u210, u211, u212, u213, u214, u215, u216, u217, u218, u219], []⟩ w := by
  conv => arg 2; whnf
  have HIH := Lib.hid ih
  have HS0 := Lib.hid hs0
  have HROW := Lib.hid hrow
  have HIX := Lib.hid hidx
  have HC := Lib.hid hcmp
  have HSG := Lib.hid hseg
  have G1 := Lib.hid g1
  have G3 := Lib.hid g3
  have G4 := Lib.hid g4
  have C2 := Lib.hid c2
  have MD := Lib.hid mid
  clear ih hs0 hrow hidx hcmp
  clear hseg g1 g3 g4 c2 mid
  by_cases e1 : M < E
  · have e1I : (M : Int) < (E : Int) := by omega
    by_cases e2 : E < b
    · have e2I : (E : Int) < (b : Int) := by omega
      go_wp2_with fail
      refine (HIH.out R w M E b HROW.out HIX.out e1 e2 hb (by omega) HC.out G3.out G4.out C2.out).mono ?_
      rintro e w2 ⟨rfl, T, hT, hseg, hso, hsm⟩
      have HT := Lib.hid hT
      have HSS := Lib.hid hseg
      have HSO := Lib.hid hso
      have HSM := Lib.hid (HS0.out.trans hsm)
      clear hT hseg hso hsm
      go_wp2
      go_end0
      exact ⟨rfl, T, HT.out, HSG.out.trans (HSS.out.widen (by omega) (Nat.le_refl _) hb), sort_join (HSS.out.sub G1.out (.inl (Nat.le_refl _)) (by omega)) HSO.out (mid_right (by omega) hb HSS.out MD.out), HSM.out⟩
    · have e2I : ¬ (E : Int) < (b : Int) := by omega
      have hEe : E = b := by omega
      go_wp2
      go_end0
      exact ⟨rfl, R, HROW.out, HSG.out, sort_join G1.out (by rw [← hEe]; exact G3.out) MD.out, HS0.out⟩
  · have e1I : ¬ (M : Int) < (E : Int) := by omega
    have hEe : E = M := by omega
    go_wp2
    go_end0
    exact ⟨rfl, R, HROW.out, HSG.out, sort_join G1.out (by rw [← hEe]; exact G4.out) MD.out, HS0.out⟩
set_option maxHeartbeats 4000000 in
set_option maxRecDepth 100000 in
theorem sym10 (w0 w : World) {u2 u5 u6 u7 u8 u9 u10 u11 u12 u13 u14 u15 u16 u17 u19 u21 u22 u23 u25 u26 u27 u28 u29 u30 u31 u32 u33 u34 u35 u36 u37 u38 u39 u40 u41 u42 u43 u44 u45 u46 u47 u48 u49 u50 u51 u52 u53 u54 u55 u56 u57 u58 u59 u60 u61 u62 u63 u64 u65 u66 u67 u68 u69 u70 u71 u72 u73 u74 u75 u76 u77 u78 u79 u80 u81 u82 u83 u84 u85 u86 u87 u88 u89 u90 u91 u92 u93 u94 u95 u96 u97 u98 u99 u100 u101 u102 u103 u104 u105 u106 u107 u108 u109 u110 u111 u112 u113 u114 u115 u116 u117 u118 u119 u120 u121 u122 u123 u124 u125 u126 u127 u128 u129 u130 u131 u132 u133 u134 u135 u136 u137 u138 u139 u140 u141 u142 u143 u144 u145 u146 u147 u148 u149 u150 u151 u152 u153 u154 u155 u156 u157 u158 u159 u160 u161 u162 u163 u164 u165 u166 u167 u168 u169 u170 u171 u172 u173 u174 u175 u176 u177 u178 u179 u180 u181 u182 u183 u184 u185 u186 u187 u188 u189 u190 u191 u192 u193 u194 u195 u196 u197 u198 u199 u200 u201 u202 u203 u204 u205 u206 u207 u208 u209 u210 u211 u212 u213 u214 u215 u216 u217 u218 u219 : Value} {F : FuncId} {cap : Array Value} {cf : Int → Int → Int} {key : Int → Int} {lo g cp N fuel : Nat} (hN : N ≤ 1000) (ih : SymIH F cap cf key lo g cp N fuel) {A R : List Int} {a m b M s E : Nat} (hfl : b - a ≤ fuel + 1) (hb : b ≤ N) (haM : a < M) (hMb : M < b) (hs0 : Same g (g + 1) w0 w) (hrow : RowI w lo g N cp R) (hidx : IdxR R N) (hcmp : CmpOk F cap cf g N w) (hE : M ≤ E) (hEb : E ≤ b) (has : a ≤ s) (hsM : s ≤ M) (hseg : Seg N A R a b) (g1 : SortR key R a s) (g2 : SortR key R s M) (g3 : SortR key R M E) (g4 : SortR key R E b) (c1 : Cross R a s M) (c2 : Cross R M E b) (mid : ∀ p q, a ≤ p → p < M → M ≤ q → q < b → LexLt key (at0 R p) (at0 R q)) :
    Code.wp Try.prog (hdS (tlS 10 bodySym)) (Exit.then (Code.wp Try.prog (tlS 11 bodySym) (bodyPost Try.prog Try.f116 (SymPost lo g cp N key A a b w0))) (bodyPost Try.prog Try.f116 (SymPost lo g cp N key A a b w0))) ⟨#[(.slice (some ⟨g, 0, none⟩) N cp), (.int .i64 (a : Int)), u2, (.int .i64 (b : Int)), (.func (.func F) #[] cap), u5, u6, u7, u8, u9, u10, u11, u12, u13, u14, u15, u16, u17, (.int .i64 (M : Int)), u19, (.int .i64 (s : Int)), u21, u22, u23, (.int .i64 (E : Int)), u25, u26, u27, u28, u29, u30, u31, u32, u33, u34, u35, u36, u37, u38, u39, u40, u41, u42, u43, u44, u45, u46, u47, u48, u49, u50, u51, u52, u53, u54, u55, u56, u57, u58, u59, u60, u61, u62, u63, u64, u65, u66, u67, u68, u69, u70, u71, u72, u73, u74, u75, u76, u77, u78, u79, u80, u81, u82, u83, u84, u85, u86, u87, u88, u89, u90, u91, u92, u93, u94, u95, u96, u97, u98, u99, u100, u101, u102, u103, u104, u105, u106, u107, u108, u109, u110, u111, u112, u113, u114, u115, u116, u117, u118, u119, u120, u121, u122, u123, u124, u125, u126, u127, u128, u129, u130, u131, u132, u133, u134, u135, u136, u137, u138, u139, u140, u141, u142, u143, u144, u145, u146, u147, u148, u149, u150, u151, u152, u153, u154, u155, u156, u157, u158, u159, u160, u161, u162, u163, u164, u165, u166, u167, u168, u169, u170, u171, u172, u173, u174, u175, u176, u177, u178, u179, u180, u181, u182, u183, u184, u185, u186, u187, u188, u189, u190, u191, u192, u193, u194, u195, u196, u197, u198, u199, u200, u201, u202, u203, u204, u205, u206, u207, u208, u209, u210, u211, u212, u213, u214, u215, u216, u217, u218, u219], []⟩ w := by
  conv => arg 2; whnf
  have HIH := Lib.hid ih
  have HS0 := Lib.hid hs0
  have HROW := Lib.hid hrow
  have HIX := Lib.hid hidx
  have HC := Lib.hid hcmp
  have HSG := Lib.hid hseg
  have G1 := Lib.hid g1
  have G2 := Lib.hid g2
  have G3 := Lib.hid g3
  have G4 := Lib.hid g4
  have C1 := Lib.hid c1
  have C2 := Lib.hid c2
  have MD := Lib.hid mid
  clear ih hs0 hrow hidx hcmp
  clear hseg g1 g2 g3 g4 c1 c2 mid
  by_cases e1 : a < s
  · have e1I : (a : Int) < (s : Int) := by omega
    by_cases e2 : s < M
    · have e2I : (s : Int) < (M : Int) := by omega
      go_wp2_with fail
      refine (HIH.out R w a s M HROW.out HIX.out e1 e2 (by omega) (by omega) HC.out G1.out G2.out C1.out).mono ?_
      rintro e w2 ⟨rfl, T, hT, hseg, hso, hsm⟩
      have HT := Lib.hid hT
      have HSS := Lib.hid hseg
      have HSO := Lib.hid hso
      have HSM := Lib.hid (HS0.out.trans hsm)
      have HC2 := Lib.hid (HC.out.same hsm)
      clear hT hseg hso hsm
      go_wp2_with fail
      conv => arg 2; whnf
      exact sym11 (m := 0) (s := 0) w0 w2 hN HIH.out hfl hb haM hMb HSM.out HT.out (HSS.out.idx (by omega) HIX.out) HC2.out hE hEb (HSG.out.trans (HSS.out.widen (Nat.le_refl _) (by omega) hb)) HSO.out (HSS.out.sub G3.out (.inr (Nat.le_refl _)) (by omega)) (HSS.out.sub G4.out (.inr (by omega)) hb) (cross_out HSS.out C2.out (.inr (Nat.le_refl _)) hb) (mid_left (by omega) hb HSS.out MD.out)
    · have e2I : ¬ (s : Int) < (M : Int) := by omega
      have hse : s = M := by omega
      go_wp2_with fail
      conv => arg 2; whnf
      exact sym11 (m := 0) (s := 0) w0 w hN HIH.out hfl hb haM hMb HS0.out HROW.out HIX.out HC.out hE hEb HSG.out (by rw [← hse]; exact G1.out) G3.out G4.out C2.out MD.out
  · have e1I : ¬ (a : Int) < (s : Int) := by omega
    have hse : s = a := by omega
    go_wp2_with fail
    conv => arg 2; whnf
    exact sym11 (m := 0) (s := 0) w0 w hN HIH.out hfl hb haM hMb HS0.out HROW.out HIX.out HC.out hE hEb HSG.out (by rw [← hse]; exact G2.out) G3.out G4.out C2.out MD.out
set_option maxHeartbeats 4000000 in
set_option maxRecDepth 100000 in
theorem sym9 (w0 w : World) {u5 u6 u7 u8 u9 u10 u11 u12 u13 u14 u15 u16 u17 u19 u21 u22 u23 u25 u26 u27 u28 u29 u30 u31 u32 u33 u34 u35 u36 u37 u38 u39 u40 u41 u42 u43 u44 u45 u46 u47 u48 u49 u50 u51 u52 u53 u54 u55 u56 u57 u58 u59 u60 u61 u62 u63 u64 u65 u66 u67 u68 u69 u70 u71 u72 u73 u74 u75 u76 u77 u78 u79 u80 u81 u82 u83 u84 u85 u86 u87 u88 u89 u90 u91 u92 u93 u94 u95 u96 u97 u98 u99 u100 u101 u102 u103 u104 u105 u106 u107 u108 u109 u110 u111 u112 u113 u114 u115 u116 u117 u118 u119 u120 u121 u122 u123 u124 u125 u126 u127 u128 u129 u130 u131 u132 u133 u134 u135 u136 u137 u138 u139 u140 u141 u142 u143 u144 u145 u146 u147 u148 u149 u150 u151 u152 u153 u154 u155 u156 u157 u158 u159 u160 u161 u162 u163 u164 u165 u166 u167 u168 u169 u170 u171 u172 u173 u174 u175 u176 u177 u178 u179 u180 u181 u182 u183 u184 u185 u186 u187 u188 u189 u190 u191 u192 u193 u194 u195 u196 u197 u198 u199 u200 u201 u202 u203 u204 u205 u206 u207 u208 u209 u210 u211 u212 u213 u214 u215 u216 u217 u218 u219 : Value} {F : FuncId} {cap : Array Value} {cf : Int → Int → Int} {key : Int → Int} {lo g cp N fuel : Nat} (hN : N ≤ 1000) (ih : SymIH F cap cf key lo g cp N fuel) {A : List Int} {a m b M s E : Nat} (hfl : b - a ≤ fuel + 1) (hb : b ≤ N) (haM : a < M) (hMb : M < b) (hs0 : Same g (g + 1) w0 w) (hrow : RowI w lo g N cp A) (hidx : IdxR A N) (hcmp : CmpOk F cap cf g N w) (hM : M = (a + b) / 2) (ham : a < m) (hmb : m < b) (hE : E = M + m - s) (hcut : SymCut key A a m b s) (hl : SortR key A a m) (hr : SortR key A m b) (hc : Cross A a m b) :
    Code.wp Try.prog (hdS (tlS 9 bodySym)) (Exit.then (Code.wp Try.prog (tlS 10 bodySym) (bodyPost Try.prog Try.f116 (SymPost lo g cp N key A a b w0))) (bodyPost Try.prog Try.f116 (SymPost lo g cp N key A a b w0))) ⟨#[(.slice (some ⟨g, 0, none⟩) N cp), (.int .i64 (a : Int)), (.int .i64 (m : Int)), (.int .i64 (b : Int)), (.func (.func F) #[] cap), u5, u6, u7, u8, u9, u10, u11, u12, u13, u14, u15, u16, u17, (.int .i64 (M : Int)), u19, (.int .i64 (s : Int)), u21, u22, u23, (.int .i64 (E : Int)), u25, u26, u27, u28, u29, u30, u31, u32, u33, u34, u35, u36, u37, u38, u39, u40, u41, u42, u43, u44, u45, u46, u47, u48, u49, u50, u51, u52, u53, u54, u55, u56, u57, u58, u59, u60, u61, u62, u63, u64, u65, u66, u67, u68, u69, u70, u71, u72, u73, u74, u75, u76, u77, u78, u79, u80, u81, u82, u83, u84, u85, u86, u87, u88, u89, u90, u91, u92, u93, u94, u95, u96, u97, u98, u99, u100, u101, u102, u103, u104, u105, u106, u107, u108, u109, u110, u111, u112, u113, u114, u115, u116, u117, u118, u119, u120, u121, u122, u123, u124, u125, u126, u127, u128, u129, u130, u131, u132, u133, u134, u135, u136, u137, u138, u139, u140, u141, u142, u143, u144, u145, u146, u147, u148, u149, u150, u151, u152, u153, u154, u155, u156, u157, u158, u159, u160, u161, u162, u163, u164, u165, u166, u167, u168, u169, u170, u171, u172, u173, u174, u175, u176, u177, u178, u179, u180, u181, u182, u183, u184, u185, u186, u187, u188, u189, u190, u191, u192, u193, u194, u195, u196, u197, u198, u199, u200, u201, u202, u203, u204, u205, u206, u207, u208, u209, u210, u211, u212, u213, u214, u215, u216, u217, u218, u219], []⟩ w := by
  conv => arg 2; whnf
  have HIH := Lib.hid ih
  have HS0 := Lib.hid hs0
  have HROW := Lib.hid hrow
  have HIX := Lib.hid hidx
  have HC := Lib.hid hcmp
  have HMIDF := Lib.hid (fun (R : List Int) (hR : ∀ q, q < N → at0 R q = at0 A (rotF s m E q)) => (hcut.mid ham hmb hb hl hr hc (by rw [← hM, ← hE]; exact hR)).at hM hE)
  obtain ⟨hlo, hhi, e0, e1, _, _⟩ := hcut
  rw [← hM, ← hE] at e0 e1
  have hEb : E ≤ b := e1
  have hsM : s ≤ M := by omega
  have hEM : M ≤ E := by omega
  have HMM := Lib.hid hM
  have HEE := Lib.hid hE
  clear ih hs0 hrow hidx hcmp
  clear hM hE hl hr hc
  by_cases q1 : s < m
  · have q1I : (s : Int) < (m : Int) := by omega
    by_cases q2 : m < E
    · have q2I : (m : Int) < (E : Int) := by omega
      go_wp2_with fail
      refine (rotate_any A w _ s m E HROW.out q1 q2 (by omega) hN).mono ?_
      rintro e w2 ⟨rfl, T, hT, hF, hsm⟩
      have HMD0 := HMIDF.out T hF
      have HT := Lib.hid hT
      have HSM := Lib.hid (HS0.out.trans hsm)
      have HC2 := Lib.hid (HC.out.same hsm)
      have HMD := Lib.hid HMD0
      clear hT hF hsm HMD0
      go_wp2_with fail
      conv => arg 2; whnf
      refine wp_seq ?_
      exact sym10 (m := 0) w0 w2 hN HIH.out hfl hb haM hMb HSM.out HT.out (HMD.out.1.idx hb HIX.out) HC2.out hEM hEb hlo hsM HMD.out.1 HMD.out.2.1 HMD.out.2.2.1 HMD.out.2.2.2.1 HMD.out.2.2.2.2.1 HMD.out.2.2.2.2.2.1 HMD.out.2.2.2.2.2.2.1 HMD.out.2.2.2.2.2.2.2
    · have q2I : ¬ (m : Int) < (E : Int) := by omega
      have HMD := Lib.hid (HMIDF.out A (fun q hq => by
        congr 1
        unfold rotF
        repeat' split
        all_goals omega))
      go_wp2_with fail
      conv => arg 2; whnf
      refine wp_seq ?_
      exact sym10 (m := 0) w0 w hN HIH.out hfl hb haM hMb HS0.out HROW.out HIX.out HC.out hEM hEb hlo hsM HMD.out.1 HMD.out.2.1 HMD.out.2.2.1 HMD.out.2.2.2.1 HMD.out.2.2.2.2.1 HMD.out.2.2.2.2.2.1 HMD.out.2.2.2.2.2.2.1 HMD.out.2.2.2.2.2.2.2
  · have q1I : ¬ (s : Int) < (m : Int) := by omega
    have HMD := Lib.hid (HMIDF.out A (fun q hq => by
      congr 1
      unfold rotF
      repeat' split
      all_goals omega))
    go_wp2_with fail
    conv => arg 2; whnf
    refine wp_seq ?_
    exact sym10 (m := 0) w0 w hN HIH.out hfl hb haM hMb HS0.out HROW.out HIX.out HC.out hEM hEb hlo hsM HMD.out.1 HMD.out.2.1 HMD.out.2.2.1 HMD.out.2.2.2.1 HMD.out.2.2.2.2.1 HMD.out.2.2.2.2.2.1 HMD.out.2.2.2.2.2.2.1 HMD.out.2.2.2.2.2.2.2
end Go.Proofs.Ytkankfdpodofjaa
