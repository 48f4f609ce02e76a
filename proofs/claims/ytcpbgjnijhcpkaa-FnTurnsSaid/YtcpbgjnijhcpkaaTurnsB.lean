/-
  The law FnTurns returns true for all arguments, and writes nothing that was there.
  There are no conditions.
-/
import Derived.Test.YtcpbgjnijhcpkaaTurnsC
import Derived.Test.YtcpbgjnijhcpkaaHornI
import Derived.Test.YtcpbgjnijhcpkaaHornS
import Derived.Test.YtcpbgjnijhcpkaaTurnsI
import Derived.Test.YtcpbgjnijhcpkaaDraw
import Derived.Test.YtcpbgjnijhcpkaaOpenY
namespace Go.Proofs.Ytcpbgjnijhcpkaa
open Go.ChangeShapes Go.WideShapes Go.ChangeAt Go.RowKit
set_option linter.unusedVariables false
set_option maxRecDepth 100000

theorem sum_le3 {l : List (List Int)} (h : ∀ c ∈ l, c.length ≤ 3) : (l.map List.length).sum ≤ 3 * l.length := by
  induction l with
  | nil => simp
  | cons a r ih =>
    have h1 := h a (by simp)
    have h2 := ih fun c hc => h c (by simp [hc])
    rw [List.map_cons, List.sum_cons, List.length_cons, Nat.mul_succ]
    omega
theorem few3 {cs : List (List Int)} (h1 : cs.length ≤ 9) (h2 : ∀ c ∈ cs, c.length ≤ 3) : SmallII cs := by
  have := sum_le3 h2
  exact ⟨by omega, by omega⟩
theorem horn_len {f : FormD} : (hornF f).2 = false → (hornF f).1 = [] := by
  unfold hornF
  split
  · intro h; cases h
  · intro _; rfl
theorem horn_le (f : FormD) : (hornF f).1.length ≤ f.letters.toNat := by
  unfold hornF
  split
  · exact Nat.le_of_eq (valuesN_len _ _)
  · exact Nat.zero_le _
def Apart (u v : Value) : Prop := ∀ p, u.ownBlock = some p → v.ownBlock ≠ some p
theorem Apart.symm {u v : Value} (h : Apart u v) : Apart v u := fun p hp hq => h p hq hp
theorem Apart.grow {u v v' : Value} {B : Nat} (h : Apart u v) (hu : ∀ p, u.ownBlock = some p → p < B) (hv : v'.ownBlock = v.ownBlock ∨ v'.ownBlock = some (B + 1)) : Apart u v' := by
  intro p hp e
  rcases hv with hv | hv
  · exact h p hp (hv ▸ e)
  · rw [hv] at e; cases e; have := hu _ hp; omega
def allTo (z1 : List Int) (k : Nat) : List Bool := (List.range k).map fun i => decide (atF z1 ((i + 1 : Nat) : Int) 2 = 0)
theorem allTo_len (z1 : List Int) (k : Nat) : (allTo z1 k).length = k := by simp [allTo]
theorem allTo_succ (z1 : List Int) (k : Nat) : allTo z1 (k + 1) = allTo z1 k ++ [decide (atF z1 ((k + 1 : Nat) : Int) 2 = 0)] := by simp [allTo, List.range_succ]
theorem rep_succ (k : Nat) (b : Bool) : List.replicate (k + 1) b = List.replicate k b ++ [b] := List.replicate_succ'
set_option maxHeartbeats 4000000 in
set_option maxRecDepth 100000 in
theorem turns2 (w0 w : World) {u2 u3 u4 u6 u7 u8 u9 u10 u11 u12 u13 u14 u15 u16 u17 u18 u19 u20 u21 u22 u23 u24 u25 u26 u27 u28 u29 u30 u31 u32 u33 u34 u35 u36 u37 u38 u39 u40 u41 u42 u43 u44 u45 u46 u47 u48 u49 u50 u51 u52 u53 u54 u55 u56 u57 u58 u59 u60 u61 u62 u63 u64 u65 u66 u67 u68 u69 u70 u71 u72 u73 u74 u75 u76 u77 u78 u79 u80 u81 u82 u83 u84 u85 u86 u87 u88 u89 u90 u91 u92 u93 u94 u95 u96 u97 u98 u99 u100 u101 u102 u103 u104 u105 u106 u107 u108 u109 u110 u111 u112 u113 u114 u115 u116 u117 u118 u119 u120 u121 u122 u123 u124 u125 u126 u127 u128 u129 u130 u131 u132 u133 u134 u135 u136 u137 u138 u139 u140 u141 u142 u143 u144 u145 u146 u147 u148 u149 u150 u151 u152 u153 u154 u155 u156 u157 u158 u159 u160 u161 u162 u163 u164 u165 u166 u167 u168 u169 u170 u171 u172 u173 u174 u175 u176 u177 u178 u179 u180 u181 u182 u183 u184 u185 u186 u187 u188 u189 u190 u191 u192 u193 u194 u195 u196 u197 u198 u199 u200 u201 u202 u203 u204 u205 u206 u207 u208 u209 u210 u211 u212 u213 u214 u215 u216 u217 u218 u219 u220 u221 u222 u223 u224 u225 u226 u227 u228 u229 u230 u231 u232 u233 u234 u235 u236 u237 u238 u239 u240 u241 u242 u243 u244 u245 u246 u247 u248 u249 u250 u251 u252 u253 u254 u255 u256 u257 u258 u259 u260 u261 u262 u263 u264 u265 u266 u267 u268 u269 u270 u271 u272 u273 u274 u275 u276 u277 u278 u279 u280 u281 u282 u283 u284 u285 u286 u287 u288 u289 u290 u291 u292 u293 u294 u295 u296 u297 u298 u299 u300 u301 u302 u303 u304 u305 u306 u307 u308 u309 u310 u311 u312 u313 u314 u315 u316 u317 u318 u319 u320 u321 u322 u323 u324 u325 u326 u327 u328 u329 u330 u331 u332 u333 u334 u335 u336 u337 u338 u339 u340 u341 u342 u343 u344 u345 u346 u347 u348 u349 u350 u351 u352 u353 u354 u355 u356 u357 u358 u359 u360 u361 u362 u363 u364 u365 u366 u367 u368 u369 u370 u371 u372 u373 u374 u375 u376 u377 u378 u379 u380 : Value} {v0 v1 : Value} {z0 z1 : List Int} (hB : Below w0.heap.size w0 w) (h0 : Byts w0 0 w0.heap.size v0 z0) (h1 : Byts w0 0 w0.heap.size v1 z1) {b L : Nat} {cs : List (List Int)} {fa : Option Addr} {fc : Nat} (hbx : TwoC w b 26 (.int .i64 (L : Int)) (.slice fa cs.length fc)) (hcs : Intss w 0 w.heap.size (.slice fa cs.length fc) cs) (hsm : SmallII cs) (hval : validForm ⟨(L : Int), cs⟩ = true) :
    Code.wp Try.prog (hdC (tlC 15 bodyOf)) (Exit.then (Code.wp Try.prog (tlC 16 bodyOf) (bodyPost Try.prog Try.f5 fun e w' => e = .returned (.bool true) ∧ Below w0.heap.size w0 w')) (bodyPost Try.prog Try.f5 fun e w' => e = .returned (.bool true) ∧ Below w0.heap.size w0 w')) ⟨#[v0, v1, u2, u3, u4, (.pointer (some ⟨b, 0, none⟩)), u6, u7, u8, u9, u10, u11, u12, u13, u14, u15, u16, u17, u18, u19, u20, u21, u22, u23, u24, u25, u26, u27, u28, u29, u30, u31, u32, u33, u34, u35, u36, u37, u38, u39, u40, u41, u42, u43, u44, u45, u46, u47, u48, u49, u50, u51, u52, u53, u54, u55, u56, u57, u58, u59, u60, u61, u62, u63, u64, u65, u66, u67, u68, u69, u70, u71, u72, u73, u74, u75, u76, u77, u78, u79, u80, u81, u82, u83, u84, u85, u86, u87, u88, u89, u90, u91, u92, u93, u94, u95, u96, u97, u98, u99, u100, u101, u102, u103, u104, u105, u106, u107, u108, u109, u110, u111, u112, u113, u114, u115, u116, u117, u118, u119, u120, u121, u122, u123, u124, u125, u126, u127, u128, u129, u130, u131, u132, u133, u134, u135, u136, u137, u138, u139, u140, u141, u142, u143, u144, u145, u146, u147, u148, u149, u150, u151, u152, u153, u154, u155, u156, u157, u158, u159, u160, u161, u162, u163, u164, u165, u166, u167, u168, u169, u170, u171, u172, u173, u174, u175, u176, u177, u178, u179, u180, u181, u182, u183, u184, u185, u186, u187, u188, u189, u190, u191, u192, u193, u194, u195, u196, u197, u198, u199, u200, u201, u202, u203, u204, u205, u206, u207, u208, u209, u210, u211, u212, u213, u214, u215, u216, u217, u218, u219, u220, u221, u222, u223, u224, u225, u226, u227, u228, u229, u230, u231, u232, u233, u234, u235, u236, u237, u238, u239, u240, u241, u242, u243, u244, u245, u246, u247, u248, u249, u250, u251, u252, u253, u254, u255, u256, u257, u258, u259, u260, u261, u262, u263, u264, u265, u266, u267, u268, u269, u270, u271, u272, u273, u274, u275, u276, u277, u278, u279, u280, u281, u282, u283, u284, u285, u286, u287, u288, u289, u290, u291, u292, u293, u294, u295, u296, u297, u298, u299, u300, u301, u302, u303, u304, u305, u306, u307, u308, u309, u310, u311, u312, u313, u314, u315, u316, u317, u318, u319, u320, u321, u322, u323, u324, u325, u326, u327, u328, u329, u330, u331, u332, u333, u334, u335, u336, u337, u338, u339, u340, u341, u342, u343, u344, u345, u346, u347, u348, u349, u350, u351, u352, u353, u354, u355, u356, u357, u358, u359, u360, u361, u362, u363, u364, u365, u366, u367, u368, u369, u370, u371, u372, u373, u374, u375, u376, u377, u378, u379, u380], []⟩ w := by
  conv => arg 2; whnf
  have hs0 : w0.heap.size ≤ w.heap.size := hB.size
  have hbl := hbx.lt
  have kL : I64 (L : Int) := by
    have := (validForm_bounds hval).1
    constructor <;> (simp only at this; omega)
  have HK : Hid (∀ wx, Below w.heap.size w wx → wx.cell? ⟨b, 0, none⟩ = some (.int .i64 L) ∧ wx.cell? ⟨b, 1, none⟩ = some (.slice fa cs.length fc)) := by
    intro wx hx
    have := hbx.below hx hbl
    exact ⟨this.c0, this.c1⟩
  have HF : Hid (∀ wx, Below w.heap.size w wx → FormR wx 0 wx.heap.size (.agg #[.int .i64 L, .slice fa cs.length fc]) ⟨L, cs⟩) := by
    intro wx hx
    exact ⟨⟨_, rfl, (hcs.below hx (Nat.le_refl _)).mono (Nat.zero_le _) hx.size (Nat.le_refl _)⟩, kL⟩
  have HB := Lib.hid hB
  have HY0 := Lib.hid h0
  have HY1 := Lib.hid h1
  have HSM := Lib.hid hsm
  have HV := Lib.hid hval
  have q0 := hbx.c0
  have q1 := hbx.c1
  clear h0 h1 hB hbx hcs hsm hval
  go_wp2_with fail
  refine (implHornModel_any w _ _ (HF.out w (Below.refl _ _)) (Nat.le_refl _) HSM.out).mono ?_
  rintro e w2 ⟨r1, rfl, ho1, hb1⟩
  have HB1 := Lib.hid hb1
  have hz1 : w.heap.size ≤ w2.heap.size := hb1.size
  have q0 := (HK.out w2 hb1).1
  have q1 := (HK.out w2 hb1).2
  have hbool : ∃ five ho, five = (hornF ⟨(L : Int), cs⟩).2 ∧ ho = (hornF ⟨(L : Int), cs⟩).1 := ⟨_, _, rfl, rfl⟩
  obtain ⟨five, ho, hfive, hho⟩ := hbool
  rw [← hfive]
  rw [← hho] at ho1
  have HFI := Lib.hid hfive
  have HHO := Lib.hid hho
  have hhl : ho.length ≤ 1048576 := by
    have h1 := horn_le ⟨(L : Int), cs⟩
    have h2 := (validForm_bounds HV.out).1
    rw [← hho] at h1
    simp only [Int.toNat_natCast] at h1 h2
    omega
  have HZF : Hid (five = false → ho = []) := by rw [hfive, hho]; exact horn_len
  obtain ⟨ra, rc, hre⟩ := ownB_shape ho1
  obtain ⟨ln, hln⟩ : ∃ n, n = ho.length := ⟨_, rfl⟩
  rw [← hln] at hre hhl
  subst hre
  have HLN := Lib.hid hln
  have HO1 := Lib.hid ho1
  clear hb1 ho1 hfive hho hln
  go_wp2_with fail
  conv => arg 2; whnf
  go_wp2_with fail
  refine (specHornModel_any w2 _ _ (HF.out w2 HB1.out) (Nat.le_refl _) HSM.out).mono ?_
  rintro e w3 ⟨r2, rfl, ho2, hb2⟩
  have HB2 := Lib.hid (HB1.out.trans (hb2.mono hz1))
  have hz2 : w2.heap.size ≤ w3.heap.size := hb2.size
  have q0 := (HK.out w3 HB2.out).1
  have q1 := (HK.out w3 HB2.out).2
  rw [← HFI.out]
  rw [← HHO.out] at ho2
  obtain ⟨ra2, rc2, hre⟩ := ownB_shape ho2
  rw [← HLN.out] at hre
  subst hre
  have HO2 := Lib.hid ho2
  have HO1b := Lib.hid (HO1.out.below hb2 (Nat.le_refl _))
  clear hb2 ho2
  go_wp2_with fail
  refine (implPairModel_any w3 _ _ (HF.out w3 HB2.out) (Nat.le_refl _) HSM.out).mono ?_
  rintro e w4 ⟨r3, rfl, ho3, hb3⟩
  have HB3 := Lib.hid (HB2.out.trans (hb3.mono (by omega)))
  have hz3 : w3.heap.size ≤ w4.heap.size := hb3.size
  have q0 := (HK.out w4 HB3.out).1
  have q1 := (HK.out w4 HB3.out).2
  have hbool : ∃ six ps, six = (pairModel ⟨(L : Int), cs⟩).2 ∧ ps = (pairModel ⟨(L : Int), cs⟩).1 := ⟨_, _, rfl, rfl⟩
  obtain ⟨six, ps, hsix, hps⟩ := hbool
  rw [← hsix]
  rw [← hps] at ho3
  have HSI := Lib.hid hsix
  have HPS : Hid (six = true → ps.length = L ∧ holdsBy ⟨(L : Int), cs⟩ ps = (true, true)) := by
    rw [hsix, hps]; exact pair_holds HV.out rfl
  have HO3 := Lib.hid ho3
  have HO1c := Lib.hid (HO1b.out.below hb3 (by omega))
  have HO2c := Lib.hid (HO2.out.below hb3 (by omega))
  clear hb3 ho3 hsix hps
  go_wp2_with fail
  refine (specPairModel_any w4 _ _ (HF.out w4 HB3.out) (Nat.le_refl _) HSM.out).mono ?_
  rintro e w5 ⟨r4, rfl, ho4, hb4⟩
  have HB4 := Lib.hid (HB3.out.trans (hb4.mono (by omega)))
  have hz4 : w4.heap.size ≤ w5.heap.size := hb4.size
  have q0 := (HK.out w5 HB4.out).1
  have q1 := (HK.out w5 HB4.out).2
  rw [← HSI.out]
  have HO3d := Lib.hid (HO3.out.below hb4 (Nat.le_refl _))
  have HO1d := Lib.hid (HO1c.out.below hb4 (by omega))
  have HO2d := Lib.hid (HO2c.out.below hb4 (by omega))
  clear hb4 ho4
  have hln0 : five = false → ln = 0 := fun h => by rw [HLN.out, HZF.out h]; rfl
  have HLN0 := Lib.hid hln0
  clear hln0
  cases five
  · obtain rfl : ln = 0 := HLN0.out rfl
    go_wp2_with fail
    go_loopw [207] (fun iv wr => ∃ k : Nat, k ≤ 0 ∧ iv = .int .i64 k ∧ Drew w5 wr) (fun iv _ => 0 - (intOf iv).toNat)
    case atStart => exact ⟨0, Nat.zero_le _, rfl, Drew.refl _⟩
    case round =>
      obtain ⟨k, hk, rfl, hD⟩ := hrel
      have hcw := hD.cell
      have hbr := HB4.out.trans (hD.below w.heap.size)
      have q0 := (HK.out wr hbr).1
      have q1 := (HK.out wr hbr).2
      obtain rfl : k = 0 := by omega
      cases six
      · go_upto_region 38 with (fail)
        exact join_part (by assumption) (turns3 w0 _ (HB.out.trans (hbr.mono hs0)) HY0.out HY1.out)
      · obtain ⟨hpl, hph⟩ := HPS.out rfl
        have HPH := Lib.hid hph
        have hpl1 : ps.length ≤ 1048576 := by have := (validForm_bounds HV.out).1; simp only at this; omega
        clear hph hpl
        go_wp2_with fail
        refine (specHoldsBy_any wr _ _ _ ps (HF.out wr hbr) (Nat.le_refl _) HSM.out (HO3d.out.drew hD).rd (by rw [hD.heap]; omega) hpl1).mono ?_
        rintro e w6 ⟨he, hb6⟩
        rw [HPH.out] at he
        subst he
        have HB6 := Lib.hid (hbr.trans (hb6.mono hbr.size))
        clear hb6
        go_upto_region 38 with (fail)
        exact join_part (by assumption) (turns3 w0 _ (HB.out.trans (HB6.out.mono hs0)) HY0.out HY1.out)
  · go_wp2_with fail
    go_loopw [207] (fun iv wr => ∃ k : Nat, k ≤ ln ∧ iv = .int .i64 k ∧ Drew w5 wr) (fun iv _ => ln - (intOf iv).toNat)
    case atStart => exact ⟨0, Nat.zero_le _, rfl, Drew.refl _⟩
    case round =>
      obtain ⟨k, hk, rfl, hD⟩ := hrel
      have hcw := hD.cell
      have hbr := HB4.out.trans (hD.below w.heap.size)
      have q0 := (HK.out wr hbr).1
      have q1 := (HK.out wr hbr).2
      by_cases hlt : k < ln
      · rcases HO1d.out.rd.out with ⟨a1, c1, ee1, _, _, hd1⟩
        rcases HO2d.out.rd.out with ⟨a2, c2, ee2, _, _, hd2⟩
        rw [← HLN.out] at ee1 ee2
        injection ee1 with x1 x2 x3
        injection ee2 with y1 y2 y3
        subst x1 x3 y1 y3
        have hl1' : k < ho.length := by rw [← HLN.out]; exact hlt
        rcases hd1 with hd1 | ⟨b1, o1, rfl, _, _, _, hcell1⟩
        · rw [hd1] at hl1'; simp at hl1'
        rcases hd2 with hd2 | ⟨b2, o2, rfl, _, _, _, hcell2⟩
        · rw [hd2] at hl1'; simp at hl1'
        have hck := hcell1 k hl1'
        have gck := hcell2 k hl1'
        obtain ⟨y, hy⟩ : ∃ y, y = ho.getD k false := ⟨_, rfl⟩
        rw [← hy] at hck gck
        clear hcell1 hcell2 hy hl1' x2 y2
        go_wp2_with fail
        go_quiet (fail)
        go_wp2
        go_roundw
        case rel => exact ⟨k + 1, by omega, by go_num, hD.step _⟩
        case measure => simp [intOf]; omega
      · obtain rfl : ln = k := by omega
        cases six
        · go_upto_region 38 with (fail)
          exact join_part (by assumption) (turns3 w0 _ (HB.out.trans (hbr.mono hs0)) HY0.out HY1.out)
        · obtain ⟨hpl, hph⟩ := HPS.out rfl
          have HPH := Lib.hid hph
          have hpl1 : ps.length ≤ 1048576 := by have := (validForm_bounds HV.out).1; simp only at this; omega
          clear hph hpl
          go_wp2_with fail
          refine (specHoldsBy_any wr _ _ _ ps (HF.out wr hbr) (Nat.le_refl _) HSM.out (HO3d.out.drew hD).rd (by rw [hD.heap]; omega) hpl1).mono ?_
          rintro e w6 ⟨he, hb6⟩
          rw [HPH.out] at he
          subst he
          have HB6 := Lib.hid (hbr.trans (hb6.mono hbr.size))
          clear hb6
          go_upto_region 38 with (fail)
          exact join_part (by assumption) (turns3 w0 _ (HB.out.trans (HB6.out.mono hs0)) HY0.out HY1.out)
end Go.Proofs.Ytcpbgjnijhcpkaa
