/-
  The library's symMerge at []int64: two parts in order become one: the search for the middle.
-/
import Derived.Test.YtkankfdpodofjaaSymG
namespace Go.Proofs.Ytkankfdpodofjaa
open Go.RowKit
set_option linter.unusedVariables false
set_option maxRecDepth 100000

set_option maxHeartbeats 4000000 in
set_option maxRecDepth 100000 in
theorem sym8 (w0 w : World) {u5 u6 u7 u8 u9 u10 u11 u12 u13 u14 u15 u16 u17 u21 u22 u23 u24 u25 u26 u27 u28 u29 u30 u31 u32 u33 u34 u35 u36 u37 u38 u39 u40 u41 u42 u43 u44 u45 u46 u47 u48 u49 u50 u51 u52 u53 u54 u55 u56 u57 u58 u59 u60 u61 u62 u63 u64 u65 u66 u67 u68 u69 u70 u71 u72 u73 u74 u75 u76 u77 u78 u79 u80 u81 u82 u83 u84 u85 u86 u87 u88 u89 u90 u91 u92 u93 u94 u95 u96 u97 u98 u99 u100 u101 u102 u103 u104 u105 u106 u107 u108 u109 u110 u111 u112 u113 u114 u115 u116 u117 u118 u119 u120 u121 u122 u123 u124 u125 u126 u127 u128 u129 u130 u131 u132 u133 u134 u135 u136 u137 u138 u139 u140 u141 u142 u143 u144 u145 u146 u147 u148 u149 u150 u151 u152 u153 u154 u155 u156 u157 u158 u159 u160 u161 u162 u163 u164 u165 u166 u167 u168 u169 u170 u171 u172 u173 u174 u175 u176 u177 u178 u179 u180 u181 u182 u183 u184 u185 u186 u187 u188 u189 u190 u191 u192 u193 u194 u195 u196 u197 u198 u199 u200 u201 u202 u203 u204 u205 u206 u207 u208 u209 u210 u211 u212 u213 u214 u215 u216 u217 u218 u219 : Value} {F : FuncId} {cap : Array Value} {key : Int → Int} {lo g cp N : Nat} {A : List Int} {a m b M s E : Nat} (v7 : (M : Int) + (m : Int) - (s : Int) = (E : Int)) (v8 : IntKind.i64.wrap (E : Int) = (E : Int)) (h : ∀ x175 x176 x177 : Value, Code.wp Try.prog (hdS (tlS 9 bodySym)) (Exit.then (Code.wp Try.prog (tlS 10 bodySym) (bodyPost Try.prog Try.f116 (SymPost lo g cp N key A a b w0))) (bodyPost Try.prog Try.f116 (SymPost lo g cp N key A a b w0))) ⟨#[(.slice (some ⟨g, 0, none⟩) N cp), (.int .i64 (a : Int)), (.int .i64 (m : Int)), (.int .i64 (b : Int)), (.func (.func F) #[] cap), u5, u6, u7, u8, u9, u10, u11, u12, u13, u14, u15, u16, u17, (.int .i64 (M : Int)), (.int .i64 ((M : Int) + (m : Int))), (.int .i64 (s : Int)), u21, u22, u23, (.int .i64 (E : Int)), u25, u26, u27, u28, u29, u30, u31, u32, u33, u34, u35, u36, u37, u38, u39, u40, u41, u42, u43, u44, u45, u46, u47, u48, u49, u50, u51, u52, u53, u54, u55, u56, u57, u58, u59, u60, u61, u62, u63, u64, u65, u66, u67, u68, u69, u70, u71, u72, u73, u74, u75, u76, u77, u78, u79, u80, u81, u82, u83, u84, u85, u86, u87, u88, u89, u90, u91, u92, u93, u94, u95, u96, u97, u98, u99, u100, u101, u102, u103, u104, u105, u106, u107, u108, u109, u110, u111, u112, u113, u114, u115, u116, u117, u118, u119, u120, u121, u122, u123, u124, u125, u126, u127, u128, u129, u130, u131, u132, u133, u134, u135, u136, u137, u138, u139, u140, u141, u142, u143, u144, u145, u146, u147, u148, u149, u150, u151, u152, u153, u154, u155, u156, u157, u158, u159, u160, u161, u162, u163, u164, u165, u166, u167, u168, u169, u170, u171, u172, u173, u174, x175, x176, x177, u178, u179, u180, u181, u182, u183, u184, u185, u186, u187, u188, u189, u190, u191, u192, u193, u194, u195, u196, u197, u198, u199, u200, u201, u202, u203, u204, u205, u206, u207, u208, u209, u210, u211, u212, u213, u214, u215, u216, u217, u218, u219], []⟩ w) :
    Code.wp Try.prog (hdS (tlS 8 bodySym)) (Exit.then (Code.wp Try.prog (tlS 9 bodySym) (bodyPost Try.prog Try.f116 (SymPost lo g cp N key A a b w0))) (bodyPost Try.prog Try.f116 (SymPost lo g cp N key A a b w0))) ⟨#[(.slice (some ⟨g, 0, none⟩) N cp), (.int .i64 (a : Int)), (.int .i64 (m : Int)), (.int .i64 (b : Int)), (.func (.func F) #[] cap), u5, u6, u7, u8, u9, u10, u11, u12, u13, u14, u15, u16, u17, (.int .i64 (M : Int)), (.int .i64 ((M : Int) + (m : Int))), (.int .i64 (s : Int)), u21, u22, u23, u24, u25, u26, u27, u28, u29, u30, u31, u32, u33, u34, u35, u36, u37, u38, u39, u40, u41, u42, u43, u44, u45, u46, u47, u48, u49, u50, u51, u52, u53, u54, u55, u56, u57, u58, u59, u60, u61, u62, u63, u64, u65, u66, u67, u68, u69, u70, u71, u72, u73, u74, u75, u76, u77, u78, u79, u80, u81, u82, u83, u84, u85, u86, u87, u88, u89, u90, u91, u92, u93, u94, u95, u96, u97, u98, u99, u100, u101, u102, u103, u104, u105, u106, u107, u108, u109, u110, u111, u112, u113, u114, u115, u116, u117, u118, u119, u120, u121, u122, u123, u124, u125, u126, u127, u128, u129, u130, u131, u132, u133, u134, u135, u136, u137, u138, u139, u140, u141, u142, u143, u144, u145, u146, u147, u148, u149, u150, u151, u152, u153, u154, u155, u156, u157, u158, u159, u160, u161, u162, u163, u164, u165, u166, u167, u168, u169, u170, u171, u172, u173, u174, u175, u176, u177, u178, u179, u180, u181, u182, u183, u184, u185, u186, u187, u188, u189, u190, u191, u192, u193, u194, u195, u196, u197, u198, u199, u200, u201, u202, u203, u204, u205, u206, u207, u208, u209, u210, u211, u212, u213, u214, u215, u216, u217, u218, u219], []⟩ w := by
  conv => arg 2; whnf
  go_wp2_with fail
  conv => arg 2; whnf
  refine wp_seq ?_
  exact h _ _ _
set_option maxHeartbeats 4000000 in
set_option maxRecDepth 100000 in
theorem sym6 (w0 w : World) {u5 u6 u7 u8 u9 u10 u11 u12 u13 u14 u15 u16 u17 u22 u23 u24 u25 u26 u27 u28 u29 u30 u31 u32 u33 u34 u35 u36 u37 u38 u39 u40 u41 u42 u43 u44 u45 u46 u47 u48 u49 u50 u51 u52 u53 u54 u55 u56 u57 u58 u59 u60 u61 u62 u63 u64 u65 u66 u67 u68 u69 u70 u71 u72 u73 u74 u75 u76 u77 u78 u79 u80 u81 u82 u83 u84 u85 u86 u87 u88 u89 u90 u91 u92 u93 u94 u95 u96 u97 u98 u99 u100 u101 u102 u103 u104 u105 u106 u107 u108 u109 u110 u111 u112 u113 u114 u115 u116 u117 u118 u119 u120 u121 u122 u123 u124 u125 u126 u127 u128 u129 u130 u131 u132 u133 u134 u135 u136 u137 u138 u139 u140 u141 u142 u143 u144 u145 u146 u147 u148 u149 u150 u151 u152 u153 u154 u155 u156 u157 u158 u159 u160 u161 u162 u163 u164 u165 u166 u167 u168 u169 u170 u171 u172 u173 u174 u175 u176 u177 u178 u179 u180 u181 u182 u183 u184 u185 u186 u187 u188 u189 u190 u191 u192 u193 u194 u195 u196 u197 u198 u199 u200 u201 u202 u203 u204 u205 u206 u207 u208 u209 u210 u211 u212 u213 u214 u215 u216 u217 u218 u219 : Value} {F : FuncId} {cap : Array Value} {cf : Int → Int → Int} {key : Int → Int} {lo g cp N fuel : Nat} (hN : N ≤ 1000) (ih : SymIH F cap cf key lo g cp N fuel) {A : List Int} {a m b M s E : Nat} (hfl : b - a ≤ fuel + 1) (hb : b ≤ N) (haM : a < M) (hMb : M < b) (hs0 : Same g (g + 1) w0 w) (hrow : RowI w lo g N cp A) (hidx : IdxR A N) (hcmp : CmpOk F cap cf g N w) (hF : ∀ args wx, (callFunc F args).run Try.prog wx = .ok (.enter F args) wx) (hkey : ∀ x y, decide (cf x y < 0) = decide (key x < key y)) (hM : M = (a + b) / 2) (ham : a < m) (hmb : m < b) (hinv : SymInv key A a m b s E) (hl : SortR key A a m) (hr : SortR key A m b) (hc : Cross A a m b) :
    Code.wp Try.prog (hdS (tlS 6 bodySym)) (Exit.then (Code.wp Try.prog (tlS 7 bodySym) (bodyPost Try.prog Try.f116 (SymPost lo g cp N key A a b w0))) (bodyPost Try.prog Try.f116 (SymPost lo g cp N key A a b w0))) ⟨#[(.slice (some ⟨g, 0, none⟩) N cp), (.int .i64 (a : Int)), (.int .i64 (m : Int)), (.int .i64 (b : Int)), (.func (.func F) #[] cap), u5, u6, u7, u8, u9, u10, u11, u12, u13, u14, u15, u16, u17, (.int .i64 (M : Int)), (.int .i64 ((M : Int) + (m : Int))), (.int .i64 (s : Int)), (.int .i64 (E : Int)), u22, u23, u24, u25, u26, u27, u28, u29, u30, u31, u32, u33, u34, u35, u36, u37, u38, u39, u40, u41, u42, u43, u44, u45, u46, u47, u48, u49, u50, u51, u52, u53, u54, u55, u56, u57, u58, u59, u60, u61, u62, u63, u64, u65, u66, u67, u68, u69, u70, u71, u72, u73, u74, u75, u76, u77, u78, u79, u80, u81, u82, u83, u84, u85, u86, u87, u88, u89, u90, u91, u92, u93, u94, u95, u96, u97, u98, u99, u100, u101, u102, u103, u104, u105, u106, u107, u108, u109, u110, u111, u112, u113, u114, u115, u116, u117, u118, u119, u120, u121, u122, u123, u124, u125, u126, u127, u128, u129, u130, u131, u132, u133, u134, u135, u136, u137, u138, u139, u140, u141, u142, u143, u144, u145, u146, u147, u148, u149, u150, u151, u152, u153, u154, u155, u156, u157, u158, u159, u160, u161, u162, u163, u164, u165, u166, u167, u168, u169, u170, u171, u172, u173, u174, u175, u176, u177, u178, u179, u180, u181, u182, u183, u184, u185, u186, u187, u188, u189, u190, u191, u192, u193, u194, u195, u196, u197, u198, u199, u200, u201, u202, u203, u204, u205, u206, u207, u208, u209, u210, u211, u212, u213, u214, u215, u216, u217, u218, u219], []⟩ w := by
  conv => arg 2; whnf
  have HIH := Lib.hid ih
  have HS0 := Lib.hid hs0
  have HROW := Lib.hid hrow
  have HIX := Lib.hid hidx
  have HC := Lib.hid hcmp
  have HKEY := Lib.hid hkey
  have HL := Lib.hid hl
  have HRR := Lib.hid hr
  have HCR := Lib.hid hc
  have HMM := Lib.hid hM
  have HINV := Lib.hid hinv
  have HUP := Lib.hid (fun (s r c : Nat) (h : SymInv key A a m b s r) (c1 : s ≤ c) (c2 : c < r) => h.up hmb hl hr c1 c2)
  have HDN := Lib.hid (fun (s r c : Nat) (h : SymInv key A a m b s r) (c1 : s ≤ c) (c2 : c < r) => h.down hmb hl hr c1 c2)
  rw [← hM] at HUP HDN
  have hM3 : M ≤ 1000 := by omega
  obtain ⟨p, hp⟩ : ∃ p, p = M + m - 1 := ⟨_, rfl⟩
  have v2 : (M : Int) + (m : Int) - 1 = (p : Int) := by omega
  have v1 : IntKind.i64.wrap (p : Int) = (p : Int) := IntWalk.i64_in _ (by omega)
  clear ih hs0 hrow hidx hcmp
  clear hkey hl hr hc hM hinv
  have HP := Lib.hid hp
  clear hp
  go_wp2_with fail
  conv => arg 2; whnf
  clear v1 v2
  go_wp2_with fail
  go_loopw [20, 21] (fun sv rv wr => ∃ s r : Nat, Hid (SymInv key A a m b s r) ∧ sv = .int .i64 s ∧ rv = .int .i64 r ∧ Hid (Drew w wr)) (fun sv rv _ => (intOf rv).toNat - (intOf sv).toNat)
  case atStart => exact ⟨s, E, HINV, rfl, rfl, Drew.refl _⟩
  case round =>
    clear HINV
    obtain ⟨s, r, HI, rfl, rfl, HD⟩ := hrel
    have hsr := HI.out.sr
    have i1 := HI.out.lo
    have i2 := HI.out.hi
    rw [← HMM.out] at i1 i2
    have hp := HP.out
    by_cases hlt : s < r
    · obtain ⟨c, hh⟩ : ∃ c : Nat, ((s : Int) + (r : Int)) / 2 = (c : Int) := ⟨(s + r) / 2, by omega⟩
      have hsc : s ≤ c := by omega
      have hcr : c < r := by omega
      have hrw := HROW.out.drew HD.out
      obtain ⟨q, hq⟩ : ∃ q, q = p - c := ⟨_, rfl⟩
      have hqN : q < N := by omega
      have c1 := hrw.cell (k := q) hqN
      have c2 := hrw.cell (k := c) (by omega)
      have ix := HIX.out q hqN
      have iy := HIX.out c (by omega)
      have HCC := Lib.hid (fun (wx : World) (hx : Drew wr wx) => HC.out wx ((HD.out.trans hx).same _ _) (at0 A q) (at0 A c) ix.1 ix.2 iy.1 iy.2)
      have HK := Lib.hid (HKEY.out (at0 A q) (at0 A c))
      have HU := Lib.hid (HUP.out s r c HI.out hsc hcr)
      have HDD := Lib.hid (HDN.out s r c HI.out hsc hcr)
      rw [show M + m - 1 - c = q by omega] at HU HDD
      obtain ⟨x, hx⟩ : ∃ x, x = at0 A q := ⟨_, rfl⟩
      obtain ⟨y, hy⟩ : ∃ y, y = at0 A c := ⟨_, rfl⟩
      rw [show A.getD q 0 = x from hx.symm] at c1
      rw [show A.getD c 0 = y from hy.symm] at c2
      rw [← hx, ← hy] at HCC HK HU HDD
      have z1 : (q : Int) < (N : Int) := by omega
      have z2 : (c : Int) < (N : Int) := by omega
      have z3 : (p : Int) - (c : Int) = (q : Int) := by omega
      have z4 : IntKind.i64.wrap (q : Int) = (q : Int) := IntWalk.i64_in _ (by omega)
      have w1' : IntKind.i64.wrap ((s : Int) + (r : Int)) = (s : Int) + (r : Int) := IntWalk.i64_in _ (by omega)
      clear hrw ix iy hx hy hq hp
      go_upto_region 35 with (fail)
      clear hh w1'
      cases hcf : decide (cf x y < 0)
      · have HN : Hid (SymInv key A a m b (c + 1) r) := HU.out (by
          have e := HK.out
          rw [hcf] at e
          have := of_decide_eq_false e.symm
          omega)
        have v5 : IntKind.i64.wrap ((c : Int) + 1) = (c : Int) + 1 := IntWalk.i64_in _ (by omega)
        go_wp2_with fail
        go_quiet ((exact quiet_drew (HCC.out _ (Drew.one _ _))))
        go_wp2
        go_roundw
        case rel => exact ⟨c + 1, r, HN, by go_num, rfl, HD.out.step _⟩
        case measure => (simp [intOf]; try omega)
      · have HN : Hid (SymInv key A a m b s c) := HDD.out (by
          have e := HK.out
          rw [hcf] at e
          exact of_decide_eq_true e.symm)
        go_wp2_with fail
        go_quiet ((exact quiet_drew (HCC.out _ (Drew.one _ _))))
        go_wp2
        go_roundw
        case rel => exact ⟨s, c, HN, rfl, rfl, HD.out.step _⟩
        case measure => (simp [intOf]; try omega)
    · obtain rfl : s = r := by omega
      have hcut := HI.out.cut
      have HCUT := Lib.hid hcut
      obtain ⟨E2, hE2⟩ : ∃ E2, E2 = M + m - s := ⟨_, rfl⟩
      have v6 : IntKind.i64.wrap ((M : Int) + (m : Int) - (s : Int)) = (E2 : Int) := by rw [show (M : Int) + (m : Int) - (s : Int) = (E2 : Int) by omega]; exact IntWalk.i64_in _ (by omega)
      have v7 : (M : Int) + (m : Int) - (s : Int) = (E2 : Int) := by omega
      have v8 : IntKind.i64.wrap (E2 : Int) = (E2 : Int) := IntWalk.i64_in _ (by omega)
      have HE2 := Lib.hid hE2
      clear hcut hE2
      go_upto_region 38 with (fail)
      refine join_sym (by assumption) ?_
      refine sym8 w0 wr v7 v8 ?_
      intro _ _ _
      exact sym9 w0 wr hN HIH.out hfl hb haM hMb (HS0.out.trans (HD.out.same _ _)) (HROW.out.drew HD.out) HIX.out (HC.out.same (HD.out.same _ _)) HMM.out ham hmb HE2.out HCUT.out HL.out HRR.out HCR.out
end Go.Proofs.Ytkankfdpodofjaa
