/-
  spec.ShrinkSteps.
-/
import Derived.Test.YtocngcpdpeflnaaStepL
import Derived.Test.YtocngcpdpeflnaaShrink
namespace Go.Proofs.Ytocngcpdpeflnaa
open Go.RowKit
set_option linter.unusedVariables false
set_option maxRecDepth 100000
open Ieee (Datum Format single double)

theorem flts_made (n : Nat) (hn : n ≤ 1048576) : ∀ wx : World, (Instr.makeSlice 22 (.int .i64 n) (.int .i64 n)).run Try.prog wx = .ok (.slice (some ⟨wx.heap.size, 0, none⟩) n n) (wx.alloc (.cells (madeCells #[Value.float .f32 0] n) 23)) := by
  intro wx
  obtain ⟨i0, hi, hz0, hz1, hz2⟩ := info_parts info_f32
  have := run_make (P := Try.prog) wx 22 23 i0 (.float .f32 0) Try.underlying22 hi hz0 .i64 .i64 n n (by omega) (by omega) (by rw [hz2]; omega) (by omega)
  rw [hz1, Int.toNat_natCast, Nat.mul_one] at this
  exact this
theorem flts_row (w : World) (n : Nat) (hn : n ≤ 1048576) : RowFL (w.alloc (.cells (madeCells #[Value.float .f32 0] n) 23)) w.heap.size w.heap.size n n (List.replicate n 0) := by
  exact RowFL.made (World.ownsRow_lit w _ n (Nat.le_refl _) (by unfold maxLen; omega) (by simp [size_madeCells]))
set_option maxHeartbeats 2000000 in
set_option maxRecDepth 100000 in
theorem specSteps_no (w : World) {l h : Nat} (v : Value) (r : RowsD) (step by_ : Nat) (rounds : Int) (hv : RowsR w l h v r) (hh : h ≤ w.heap.size) (hs : stepsOk r step by_ rounds = false) :
    Calls Try.prog 19 #[v, .float .f32 step, .float .f32 by_, .int .i64 rounds] w fun e w' => e = .returned (.tuple #[.slice none 0 0, .bool false]) ∧ Below w.heap.size w w' := by
  obtain ⟨a, b, c, rfl, ha0, hb0, hc0⟩ := hv.ex
  obtain ⟨W, hW⟩ : ∃ W, W = w.alloc (.cells #[.int .i64 r.vars, a, b, c] 33) := ⟨_, rfl⟩
  have hBW : Below w.heap.size w W := by rw [hW]; exact alloc_belowR _ _
  have q0 : QuadC W w.heap.size 33 (.int .i64 r.vars) a b c := by rw [hW]; exact QuadC.new _ _ _ _ _ _
  have ha := ha0.below hBW hh
  have hb := hb0.below hBW hh
  have hc := hc0.below hBW hh
  have HI := Lib.hid (fun wx (hd : Drew W wx) => l02Is_any r a b c wx (q0.drewS hd) (ha.drew hd) (hb.drew hd) (hc.drew hd))
  obtain ⟨f1, g1, r1, d1, c1⟩ := ar_any (op := .mul) (.inr (.inr rfl)) (FV.cls step) (FV.cls by_)
  have HIN := Lib.hid (fun wx => l00In_any rounds 0 200 wx)
  have HAB := Lib.hid (fun wx => l02Above_any step wx)
  have HLE := Lib.hid (fun wx => l02Least_any by_ wx)
  obtain ⟨y, hy⟩ : ∃ y, y = f1 W := ⟨_, rfl⟩
  have HFI := Lib.hid (fun wx => l01Finite_any y wx)
  have HD1 := Lib.hid (d1 W)
  have HBW := Lib.hid hBW
  have hcs : okRows r = false ∨ (okRows r = true ∧ aboveF step = false) ∨ (okRows r = true ∧ aboveF step = true ∧ okBy by_ = false) ∨ (okRows r = true ∧ aboveF step = true ∧ okBy by_ = true ∧ inB 0 200 rounds = false) ∨ (okRows r = true ∧ aboveF step = true ∧ okBy by_ = true ∧ inB 0 200 rounds = true ∧ finF y = false) := by
    cases h1 : okRows r
    · exact .inl rfl
    cases h2 : aboveF step
    · exact .inr (.inl ⟨rfl, rfl⟩)
    cases h3 : okBy by_
    · exact .inr (.inr (.inl ⟨rfl, rfl, rfl⟩))
    cases h4 : inB 0 200 rounds
    · exact .inr (.inr (.inr (.inl ⟨rfl, rfl, rfl, rfl⟩)))
    · refine .inr (.inr (.inr (.inr ⟨rfl, rfl, rfl, rfl, ?_⟩)))
      have h5 : lessO step by_ = none := by
        rw [stepsOk, h1, h2, h3, h4] at hs
        simpa using hs
      have hf1 : finF step = true := by rw [aboveF, Bool.and_eq_true] at h2; exact h2.1
      have hf2 : finF by_ = true := by rw [okBy, Bool.and_eq_true] at h3; exact h3.1
      have := c1 W
      rw [show clsF step = some step from if_pos hf1, show clsF by_ = some by_ from if_pos hf2, show arO .mul (some step) (some by_) = none from h5] at this
      rw [hy]; exact this
  clear ha hb hc ha0 hb0 hc0 hv q0 hs c1 d1 hBW
  rcases hcs with h1 | ⟨h1, h2⟩ | ⟨h1, h2, h3⟩ | ⟨h1, h2, h3, h4⟩ | ⟨h1, h2, h3, h4, h5⟩
  all_goals rw [h1] at HI
  all_goals try rw [h2] at HAB
  all_goals try rw [h3] at HLE
  all_goals try rw [h4] at HIN
  all_goals try rw [h5] at HFI
  all_goals clear h1
  all_goals try clear h2
  all_goals try clear h3
  all_goals try clear h4
  all_goals try clear h5
  all_goals
    go_enter Try.func19, Try.ntmps19
    go_wp2_with fail
    rw [← hW]
    rw [← hy]
    clear hW hy
    obtain ⟨W1, hW1⟩ : ∃ X, X = g1 W := ⟨_, rfl⟩
    have hd : Drew W W1 := by rw [hW1]; exact HD1.out
    rw [← hW1]
    clear hW1
    go_wp2_with (first | (go_at_call 29; refine (HI.out _ hd).mono ?_; rintro e w2 ⟨rfl, hd2⟩) | (go_at_call 37; refine (HAB.out _).mono ?_; rintro e w3 ⟨rfl, hd3⟩) | (go_at_call 22; refine (HLE.out _).mono ?_; rintro e w4 ⟨rfl, hd4⟩) | (go_at_call 30; refine (HIN.out _).mono ?_; rintro e w5 ⟨rfl, rfl⟩) | (go_at_call 38; refine (HFI.out _).mono ?_; rintro e w6 ⟨rfl, hd6⟩))
    go_ret2
    first
    | exact ⟨rfl, HBW.out.trans ((hd.trans hd2).below _)⟩
    | exact ⟨rfl, HBW.out.trans (((hd.trans hd2).trans hd3).below _)⟩
    | exact ⟨rfl, HBW.out.trans ((((hd.trans hd2).trans hd3).trans hd4).below _)⟩
    | exact ⟨rfl, HBW.out.trans (((((hd.trans hd2).trans hd3).trans hd4).trans hd6).below _)⟩
set_option maxHeartbeats 4000000 in
set_option maxRecDepth 100000 in
theorem specSteps_yes (w : World) {l h : Nat} (v : Value) (r : RowsD) (step by_ less : Nat) (R : Nat) (hv : RowsR w l h v r) (hh : h ≤ w.heap.size) (hs : stepsOk r step by_ R = true) (hl : lessO step by_ = some less) :
    Calls Try.prog 19 #[v, .float .f32 step, .float .f32 by_, .int .i64 R] w fun e w' => ∃ y, e = .returned (.tuple #[y, .bool (resO (runO r step less R (List.replicate r.vars.toNat 0))).2]) ∧ OwnFL w' w.heap.size w'.heap.size y (resO (runO r step less R (List.replicate r.vars.toNat 0))).1 ∧ Below w.heap.size w w' := by
  have hs' := hs
  simp only [stepsOk, Bool.and_eq_true] at hs'
  obtain ⟨⟨⟨⟨o1, o2⟩, o3⟩, o4⟩, _⟩ := hs'
  obtain ⟨V, hV, hV2, hV1, hV8, hb1, hb8, hg8, hnn, hfn, hfb⟩ := rows_nums o1
  obtain ⟨a, b, c, rfl, ha0, hb0, hc0⟩ := hv.ex
  obtain ⟨p1, c1, rfl⟩ := ha0.shape
  rw [hV] at hv ⊢
  rw [show (V : Int).toNat = V from Int.toNat_natCast V]
  obtain ⟨W, hW⟩ : ∃ W, W = w.alloc (.cells #[.int .i64 (V : Int), .slice p1 r.numbers.length c1, b, c] 33) := ⟨_, rfl⟩
  have hBW : Below w.heap.size w W := by rw [hW]; exact alloc_belowR _ _
  have q0 : QuadC W w.heap.size 33 (.int .i64 (V : Int)) (.slice p1 r.numbers.length c1) b c := by rw [hW]; exact QuadC.new _ _ _ _ _ _
  have ha := ha0.below hBW hh
  have hb := hb0.below hBW hh
  have hc := hc0.below hBW hh
  have HI := Lib.hid (l02Is_any r (.slice p1 r.numbers.length c1) b c W (by rw [hV]; exact q0) ha hb hc)
  rw [o1] at HI
  obtain ⟨hls, hlf⟩ := less_fin hl
  have hrun : ∀ wx, (binOp .mul 23 (.float .f32 step) (.float .f32 by_)).run Try.prog wx = .ok (.float .f32 less) wx := fun wx => run_float_arith (P := Try.prog) wx .mul 23 .f32 step by_ less hls
  have o3' := o3
  have o2' := o2
  rw [okBy, Bool.and_eq_true] at o3'
  rw [aboveF, Bool.and_eq_true] at o2'
  have HL0 := Lib.hid (less_ok o2 o3'.1 (by simpa using o3'.2) hls)
  have HLF := Lib.hid hlf
  have HSF := Lib.hid o2'.1
  have HIN := Lib.hid (fun wx => l00In_any (R : Int) 0 200 wx)
  have HAB := Lib.hid (fun wx => l02Above_any step wx)
  have HLE := Lib.hid (fun wx => l02Least_any by_ wx)
  have HFI := Lib.hid (fun wx => l01Finite_any less wx)
  rw [o4] at HIN
  rw [o2] at HAB
  rw [o3] at HLE
  rw [hlf] at HFI
  have hR := inB_true o4
  have HQ := Lib.hid q0
  have HA := Lib.hid ha
  have HRV := Lib.hid (hv.below hBW hh)
  have HBW := Lib.hid hBW
  have HO1 := Lib.hid o1
  have HN := Lib.hid (And.intro hV (And.intro hV2 (And.intro hnn (And.intro hfn hfb))))
  have hzW := hBW.size
  have hmk := flts_made V (by omega)
  clear ha hb hc ha0 hb0 hc0 hv q0 hs hl hls hlf o1 o2 o3 o2' o3' o4 hBW hnn hfn hfb hV hV2
  go_enter Try.func19, Try.ntmps19
  go_wp2_with fail
  rw [← hW]
  clear hW
  refine HI.out.mono ?_
  rintro e w2 ⟨rfl, hd2⟩
  go_wp2_with (first | (go_at_call 37; refine (HAB.out _).mono ?_; rintro e w3 ⟨rfl, hd3⟩) | (go_at_call 22; refine (HLE.out _).mono ?_; rintro e w4 ⟨rfl, hd4⟩) | (go_at_call 30; refine (HIN.out _).mono ?_; rintro e w5 ⟨rfl, rfl⟩) | (go_at_call 38; refine (HFI.out _).mono ?_; rintro e w6 ⟨rfl, hd6⟩; have hd7 := ((hd2.trans hd3).trans hd4).trans hd6; have q00 := (HQ.out.drewS hd7).c0))
  have hK1 := (hd7.below W.heap.size).alloc (show W.heap.size ≤ w6.heap.size by rw [hd7.heap]; exact Nat.le_refl _) (.cells (madeCells #[Value.float .f32 0] V) 23)
  have hrow := flts_row w6 V (by omega)
  have hwn : W.heap.size ≤ w6.heap.size := by rw [hd7.heap]; exact Nat.le_refl _
  have HX0 : Hid (OwnFL (w6.alloc (.cells (madeCells #[Value.float .f32 0] V) 23)) W.heap.size (w6.alloc (.cells (madeCells #[Value.float .f32 0] V) 23)).heap.size (.slice (some ⟨w6.heap.size, 0, none⟩) V V) (List.replicate V 0)) := by
    have hx := hrow.own (hi := w6.heap.size + 1) (by omega) (by omega) (by simp)
    exact hx.mono hwn (by simp) (Nat.le_refl _)
  have HK1 := Lib.hid hK1
  clear hK1 hrow q00 hmk
  go_wp2_with fail
  go_loopw [11, 12] (fun ov i wr => ∃ (t : Nat) (xs : List Nat), t ≤ R ∧ i = .int .i64 t ∧ OwnFL wr W.heap.size wr.heap.size ov xs ∧ Hid (xs.length = V ∧ allFin xs = true) ∧ Hid (runO r step less (R - t) xs = runO r step less R (List.replicate V 0)) ∧ Below W.heap.size W wr) (fun _ i _ => R - (intOf i).toNat)
  case atStart => exact ⟨0, _, Nat.zero_le _, rfl, HX0.out, Lib.hid ⟨by simp, zeros_fin V⟩, Lib.hid rfl, HK1.out⟩
  case round =>
    obtain ⟨t, xs, ht, rfl, hown, HXS, HRUN, hbr⟩ := hrel
    have hsr := hbr.size
    have HBR := Lib.hid hbr
    obtain ⟨xa, xc, rfl⟩ := hown.rd.shape
    have HOX := Lib.hid hown
    by_cases hlt : t < R
    · have hqr := HQ.out.below hbr HQ.out.lt
      have k0 := hqr.c0
      have k1 := hqr.c1
      have k2 := hqr.c2
      have k3 := hqr.c3
      have HLO := Lib.hid (specLeftOf_any wr _ r _ xs (HRV.out.below hbr (by omega)) (show h ≤ wr.heap.size by omega) hown.rd (Nat.le_refl _) HO1.out (by rw [HN.out.1, HXS.out.1]) HXS.out.2)
      clear hqr hown hbr
      go_wp2_with fail
      refine HLO.out.mono ?_
      rintro e w8 ⟨lv, rfl, hol, hb8w⟩
      clear k0 k1 k2 k3
      have hs8 := hb8w.size
      have HK8 := Lib.hid (HBR.out.trans (hb8w.mono hsr))
      have HX8 := Lib.hid (HOX.out.below hb8w (Nat.le_refl _))
      obtain ⟨m, hm⟩ : ∃ m, R - t = m + 1 := ⟨R - t - 1, by omega⟩
      have HM := Lib.hid hm
      have HM2 := Lib.hid (show R - (t + 1) = m by omega)
      clear hm
      cases hL : leftO r xs with
      | none =>
        have HE : Hid (runO r step less R (List.replicate V 0) = none) := by rw [Hid, ← HRUN.out, HM.out]; exact run_none1 hL
        clear hol hL
        go_wp2
        go_ret2
        exact ⟨_, by rw [HE.out]; rfl, by rw [HE.out]; exact OwnFL.nil _ _ _ (Nat.le_refl _), HBW.out.trans (HK8.out.mono hzW)⟩
      | some left =>
        rw [hL] at hol
        have hol : OwnFL w8 wr.heap.size w8.heap.size lv left := hol
        obtain ⟨la, lc, rfl⟩ := hol.rd.shape
        have HL := Lib.hid hL
        have HLS := Lib.hid (leftO_some hL)
        have HOL := Lib.hid (hol.mono (Nat.zero_le _) (Nat.le_refl _) (Nat.le_refl _))
        have hlen : left.length = r.bounds.length := HLS.out.2
        have HLEN := Lib.hid hlen
        have hE9 := emptySliceFL w8
        have HB9 := Lib.hid (alloc_belowR w8 (.cells #[] 23))
        have HO9 : Hid (OwnFL (w8.alloc (.cells #[] 23)) w8.heap.size (w8.alloc (.cells #[] 23)).heap.size (.slice (some ⟨w8.heap.size, 0, none⟩) 0 0) []) := hE9.mono (Nat.le_refl _) (by simp) (Nat.le_refl _)
        have hW8 : W.heap.size ≤ w8.heap.size := by omega
        clear hol hL hE9 hlen hb8w
        go_wp2_with fail
        go_loopw [15, 16] (fun nv kk wr => ∃ (k : Nat) (zs : List Nat), k ≤ V ∧ kk = .int .i64 k ∧ OwnFL wr w8.heap.size wr.heap.size nv zs ∧ Hid (FVs ((List.range k).map (nextAt r step xs left)) zs) ∧ Below w8.heap.size w8 wr) (fun _ kk _ => V - (intOf kk).toNat)
        case atStart => exact ⟨0, [], Nat.zero_le _, rfl, HO9.out, Lib.hid trivial, HB9.out⟩
        case round =>
          obtain ⟨k, zs, hk, rfl, hown, HV, hbr⟩ := hrel
          obtain ⟨wk, hwk⟩ : ∃ x : World, x = wr := ⟨_, rfl⟩
          rw [← hwk] at hown hbr ⊢
          clear hwk
          obtain ⟨na, nc, rfl⟩ := hown.rd.shape
          have hsk := hbr.size
          have HBK := Lib.hid hbr
          have HKW := Lib.hid (HK8.out.trans (hbr.mono hW8))
          have hqk := HQ.out.below HKW.out HQ.out.lt
          have k0 := hqk.c0
          have k1 := hqk.c1
          have HON := Lib.hid hown
          have HZL := Lib.hid (show zs.length = k by rw [HV.out.len]; simp)
          clear hbr hown hqk
          by_cases hkV : k < V
          · have hxk := (HX8.out.rd.below HBK.out hs8)
            have hlk := (HOL.out.rd.below HBK.out (Nat.le_refl _))
            have hak := HA.out.below HKW.out (by omega)
            have hxl : k < xs.length := by rw [HXS.out.1]; exact hkV
            obtain ⟨_, _, hxe, _, _, hxd⟩ := hxk.out
            simp only [Value.slice.injEq] at hxe
            obtain ⟨rfl, _, rfl⟩ := hxe
            rcases hxd with hxd | ⟨xb, xo, rfl, hxb1, hxb2, hxb3, hxcell⟩
            · rw [hxd] at hxl; simp at hxl
            have hcx := hxcell k hxl
            obtain ⟨xk, hxk'⟩ : ∃ y, y = xs.getD k 0 := ⟨_, rfl⟩
            rw [← hxk'] at hcx
            have HXK := Lib.hid hxk'
            have HXF := Lib.hid (show finF xk = true by rw [hxk']; exact getD_fin HXS.out.2 hxl)
            have HLK := Lib.hid hlk
            have HAK := Lib.hid hak
            clear hxk hxk' hxcell hlk hak
            go_wp2_with fail
            go_loopw [17, 18] (fun s ii wr => ∃ (i acc : Nat) (ac : Option Nat), i ≤ left.length ∧ ii = .int .i64 i ∧ s = .float .f32 acc ∧ Hid (FV ac acc) ∧ Hid (sumGo r left k ac i (r.bounds.length - i) = sumO r left k) ∧ Drew wk wr) (fun _ ii _ => left.length - (intOf ii).toNat)
            case atStart => exact ⟨0, 0, some 0, Nat.zero_le _, rfl, rfl, Lib.hid (FV.fin (by decide)), Lib.hid rfl, Drew.refl _⟩
            case round =>
              obtain ⟨i, acc, ac, hi, rfl, rfl, HVS, HSUM, hD⟩ := hrel
              have hcw := hD.cell
              by_cases hil : i < left.length
              · have hin : i < r.bounds.length := by rw [← HLEN.out]; exact hil
                obtain ⟨_, _, hle, _, _, hld⟩ := HLK.out.out
                simp only [Value.slice.injEq] at hle
                obtain ⟨rfl, _, rfl⟩ := hle
                rcases hld with hld | ⟨lb, lo, rfl, hlb1, hlb2, hlb3, hlcell⟩
                · rw [hld] at hil; simp at hil
                have hcl := hlcell i hil
                obtain ⟨hV, hV2, hnn, hfn, hfb⟩ := HN.out
                obtain ⟨mi, hmi⟩ : ∃ m, m = i * V := ⟨_, rfl⟩
                have hmk : mi + k < r.numbers.length := by rw [hmi, hnn]; exact num_lt hin hkV
                have hnl : mi + k < 64 := by
                  have : V * r.bounds.length ≤ 8 * 8 := Nat.mul_le_mul hV8 hb8
                  omega
                obtain ⟨_, _, hae, _, _, had⟩ := HAK.out.out
                simp only [Value.slice.injEq] at hae
                obtain ⟨rfl, _, rfl⟩ := hae
                rcases had with had | ⟨nb, no, rfl, hnb1, hnb2, hnb3, hncell⟩
                · rw [had] at hmk; simp at hmk
                have hcn := hncell (mi + k) hmk
                obtain ⟨nx, hnx⟩ : ∃ y, y = r.numbers.getD (mi + k) 0 := ⟨_, rfl⟩
                obtain ⟨ly, hly⟩ : ∃ y, y = left.getD i 0 := ⟨_, rfl⟩
                rw [← hnx] at hcn
                rw [← hly] at hcl
                have HS := Lib.hid (sum_step (r := r) (left := left) (k := k) (n := r.bounds.length) ac hin)
                rw [hV2, ← hmi, ← hnx, ← hly] at HS
                have e1 : (i : Int) * (V : Int) = (mi : Int) := by rw [hmi]; simp
                have e2 : IntKind.i64.wrap ((mi : Int)) = (mi : Int) := IntWalk.i64_in _ (by omega)
                have e3 : IntKind.i64.wrap ((mi : Int) + (k : Int)) = (mi : Int) + (k : Int) := IntWalk.i64_in _ (by omega)
                have e4 : ((mi : Int) + (k : Int)).toNat = mi + k := by omega
                have e5 : 0 ≤ (mi : Int) + (k : Int) := by omega
                have e6 : (mi : Int) + (k : Int) < (r.numbers.length : Int) := by omega
                obtain ⟨f1, g1, r1, d1, c1'⟩ := ar_any (op := .mul) (.inr (.inr rfl)) (FV.fin (show finF nx = true by rw [hnx]; exact getD_fin hfn hmk)) (FV.fin (show finF ly = true by rw [hly]; exact getD_fin HLS.out.1 hil))
                obtain ⟨f2, g2, r2, d2, c2'⟩ := ar_any (op := .add) (.inl rfl) HVS.out (c1' wr.drew)
                have HC2 := Lib.hid (c2' (g1 wr.drew))
                have HDR := Lib.hid (((hD.step 1).trans (d1 wr.drew)).trans (d2 _))
                clear hlcell hncell hnx hly c1' c2' hV hV2 hnn hfn hfb hmi
                go_wp2_with fail
                go_region_law (fail)
                all_goals
                  clear e1 e2 e3 e4 e5 e6
                  go_wp2
                  go_roundw
                  case rel => exact ⟨i + 1, _, _, by omega, by go_num, rfl, HC2, Lib.hid (by rw [← HSUM.out, HS.out]), HDR.out⟩
                  case measure => simp [intOf]; omega
              · have HE2 := Lib.hid (sum_end (r := r) (left := left) (k := k) (i := i) (n := r.bounds.length) ac (by have := HLEN.out; omega))
                have HVF : Hid (FV (sumO r left k) acc) := by rw [Hid, ← HSUM.out, HE2.out]; exact HVS.out
                obtain ⟨f1, g1, r1, d1, c1'⟩ := ar_any (op := .mul) (.inr (.inr rfl)) (FV.fin HSF.out) HVF.out
                obtain ⟨f2, g2, r2, d2, c2'⟩ := ar_any (op := .add) (.inl rfl) (FV.fin HXF.out) (c1' wr)
                have HC2 := Lib.hid (c2' (g1 wr))
                have HDR := Lib.hid ((hD.trans (d1 wr)).trans (d2 _))
                have HBR2 := Lib.hid (HBK.out.trans (HDR.out.below _))
                obtain ⟨W7, hW7⟩ : ∃ X, X = g2 (g1 wr) := ⟨_, rfl⟩
                obtain ⟨y7, hy7⟩ : ∃ X, X = f2 (g1 wr) := ⟨_, rfl⟩
                rw [← hW7] at HDR HBR2
                rw [← hy7] at HC2
                have HW7 := Lib.hid hW7
                have HY7 := Lib.hid hy7
                have hz7 : wk.heap.size ≤ W7.heap.size := by rw [HDR.out.heap]; exact Nat.le_refl _
                have HOA := Lib.hid (OwnFL.alloc (HON.out.drew HDR.out) (.cells #[.float .f32 y7] 23))
                have HONE := Lib.hid (oneFl W7 y7).rd
                have HSZ := Lib.hid (show w8.heap.size ≤ (W7.alloc (.cells #[.float .f32 y7] 23)).heap.size by rw [World.size_alloc]; omega)
                have HLN := Lib.hid (show zs.length + [y7].length ≤ 1099511627776 by simp; have := HZL.out; omega)
                clear c1' c2' d1 d2 hW7 hy7
                go_wp2_with (at_builtin; rw [← HW7.out, ← HY7.out]; refine wpList_appFLs (by rfl) _ _ (by rfl) _ zs (by rfl) HOA.out _ [y7] (by rfl) HONE.out HLN.out HSZ.out ?_)
                intro v9 w9 ho9 hsm9 hz9 _
                have HB10 := (HBR2.out.alloc (Nat.le_trans hsk hz7) (.cells #[.float .f32 y7] 23)).trans (hsm9.below (Nat.le_refl _) HSZ.out)
                have HV9 : Hid (FVs ((List.range (k + 1)).map (nextAt r step xs left)) (zs ++ [y7])) := by
                  rw [Hid, next_succ]; refine FVs.snoc HV.out ?_; rw [nextAt, ← HXK.out]; exact HC2.out
                go_wp2
                go_roundw
                case rel => exact ⟨k + 1, _, by omega, by go_num, ho9, HV9, HB10⟩
                case measure => simp [intOf]; omega
          · obtain rfl : k = V := by omega
            have HLL := Lib.hid (l02Finite_any _ zs wk HON.out.rd)
            have HAL := Lib.hid (FVs.all HV.out)
            have HNO : Hid (nextO r step xs left = seqO ((List.range k).map (nextAt r step xs left))) := by rw [Hid, nextO, HN.out.2.1]
            clear k1
            rcases HAL.out with ⟨h1, h2⟩ | ⟨h1, h2⟩
            · rw [h1] at HLL
              have HE := Lib.hid (HNO.out.trans h2)
              have HZF := Lib.hid h1
              clear h1 h2
              go_wp2_with fail
              refine HLL.out.mono ?_
              rintro e w10 ⟨rfl, hd10⟩
              have HSH := Lib.hid (l06Shrink_any _ zs less w10 (HON.out.rd.drew hd10) (by rw [hd10.heap]; exact Nat.le_refl _) (by rw [HZL.out]; omega) HZF.out HLF.out HL0.out)
              have HD10 := Lib.hid hd10
              clear hd10 k0
              go_wp2_with fail
              refine HSH.out.mono ?_
              rintro e w11 ⟨nx, rfl, hon, hb11⟩
              have HB11 : Below W.heap.size W w11 := (HKW.out.trans (HD10.out.below _)).trans (hb11.mono (by rw [HD10.out.heap]; omega))
              have hzz : W.heap.size ≤ w10.heap.size := by rw [HD10.out.heap]; omega
              have HRUN2 : Hid (runO r step less (R - (t + 1)) (shrinkL less zs) = runO r step less R (List.replicate k 0)) := by
                rw [Hid, ← HRUN.out, HM.out, HM2.out, run_some HL.out HE.out]
              go_wp2
              go_roundw
              case rel => exact ⟨t + 1, _, by omega, by go_num, hon.mono hzz (Nat.le_refl _) (Nat.le_refl _), Lib.hid ⟨by rw [shrinkL_len, HZL.out], shrinkL_fin HLF.out HL0.out zs HZF.out⟩, HRUN2, HB11⟩
              case measure => simp [intOf]; omega
            · rw [h1] at HLL
              have HE := Lib.hid (HNO.out.trans h2)
              clear h1 h2
              have HE2 : Hid (runO r step less R (List.replicate k 0) = none) := by rw [Hid, ← HRUN.out, HM.out]; exact run_none2 HL.out HE.out
              go_wp2_with fail
              refine HLL.out.mono ?_
              rintro e w10 ⟨rfl, hd10⟩
              go_wp2
              go_ret2
              exact ⟨_, by rw [HE2.out]; rfl, by rw [HE2.out]; exact OwnFL.nil _ _ _ (Nat.le_refl _), HBW.out.trans ((HKW.out.trans (hd10.below _)).mono hzW)⟩
    · have HE : Hid (runO r step less R (List.replicate V 0) = some xs) := by rw [Hid, ← HRUN.out, show R - t = 0 by omega, runO]
      go_wp2
      go_ret2
      exact ⟨_, by rw [HE.out]; rfl, by rw [HE.out]; exact HOX.out.mono hzW (Nat.le_refl _) (Nat.le_refl _), HBW.out.trans (HBR.out.mono hzW)⟩
theorem specShrinkSteps_any (w : World) {l h : Nat} (v : Value) (r : RowsD) (step by_ : Nat) (rounds : Int) (hv : RowsR w l h v r) (hh : h ≤ w.heap.size) (_hz : SmallR r) (_k1 : F32 step) (_k2 : F32 by_) (_k3 : I64 rounds) :
    Calls Try.prog 19 #[v, .float .f32 step, .float .f32 by_, .int .i64 rounds] w fun e w' => ∃ y, e = .returned (.tuple #[y, .bool (shrinkSteps r step by_ rounds).2]) ∧ OwnFL w' w.heap.size w'.heap.size y (shrinkSteps r step by_ rounds).1 ∧ Below w.heap.size w w' := by
  cases hs : stepsOk r step by_ rounds
  · rw [shrinkSteps_no hs]
    exact (specSteps_no w v r step by_ rounds hv hh hs).mono fun e w' ⟨h1, h2⟩ => ⟨_, h1, OwnFL.nil _ _ _ (Nat.le_refl _), h2⟩
  · have hs' := hs
    simp only [stepsOk, Bool.and_eq_true] at hs'
    obtain ⟨⟨_, o4⟩, o5⟩ := hs'
    obtain ⟨less, hl⟩ := Option.isSome_iff_exists.1 o5
    obtain ⟨R, rfl⟩ : ∃ R : Nat, rounds = (R : Int) := ⟨rounds.toNat, by have := inB_true o4; omega⟩
    rw [shrinkSteps_yes hs hl, Int.toNat_natCast]
    exact specSteps_yes w v r step by_ less R hv hh hs hl
end Go.Proofs.Ytocngcpdpeflnaa
