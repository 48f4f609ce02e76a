/-
  impl.ShrinkSteps.
-/
import Derived.Test.YtocngcpdpeflnaaStepS
namespace Go.Proofs.Ytocngcpdpeflnaa
open Go.RowKit
set_option linter.unusedVariables false
set_option maxRecDepth 100000
open Ieee (Datum Format single double)

theorem set_mid {zs xs : List Nat} {k y : Nat} (hz : zs.length = k) (hk : k < xs.length) : (zs ++ xs.drop k).set k y = (zs ++ [y]) ++ xs.drop (k + 1) := by
  rw [List.set_append_right _ _ (by omega), hz, Nat.sub_self, drop_cons xs k hk, List.set_cons_zero, List.append_assoc]; rfl
theorem get_mid {zs xs : List Nat} {k : Nat} (hz : zs.length = k) (hk : k < xs.length) : (zs ++ xs.drop k).getD k 0 = xs.getD k 0 := by
  rw [List.getD, List.getElem?_append_right (by omega), hz, Nat.sub_self, List.getElem?_drop]; rfl
theorem row_get {zs : List Nat} {q V k : Nat} (hk : k < V) : ((zs.drop q).take V).getD k 0 = zs.getD (q + k) 0 := by
  rw [List.getD, List.getElem?_take, if_pos hk, List.getElem?_drop]; rfl
set_option maxHeartbeats 2000000 in
set_option maxRecDepth 100000 in
theorem implSteps_no (w : World) {l h : Nat} (v : Value) (r : RowsD) (step by_ : Nat) (rounds : Int) (hv : RowsR w l h v r) (hh : h ≤ w.heap.size) (hz : SmallR r) (hs : stepsOk r step by_ rounds = false) :
    Calls Try.prog 20 #[v, .float .f32 step, .float .f32 by_, .int .i64 rounds] w fun e w' => e = .returned (.tuple #[.slice none 0 0, .bool false]) ∧ Below w.heap.size w w' := by
  obtain ⟨a, b, c, rfl, ha0, hb0, hc0⟩ := hv.ex
  obtain ⟨W, hW⟩ : ∃ W, W = w.alloc (.cells #[.int .i64 r.vars, a, b, c] 33) := ⟨_, rfl⟩
  have hBW : Below w.heap.size w W := by rw [hW]; exact alloc_belowR _ _
  have q0 : QuadC W w.heap.size 33 (.int .i64 r.vars) a b c := by rw [hW]; exact QuadC.new _ _ _ _ _ _
  have HI := Lib.hid (ValidRows_any _ r W (hv.below hBW hh) (by have := hBW.size; omega) hz)
  obtain ⟨f1, g1, r1, d1, c1⟩ := ar_any (op := .mul) (.inr (.inr rfl)) (FV.cls step) (FV.cls by_)
  have HIN := Lib.hid (fun wx => within_any rounds 0 200 wx)
  have HFS := Lib.hid (fun wx => IsFinite_any step wx)
  have HFB := Lib.hid (fun wx => IsFinite_any by_ wx)
  have HFY := Lib.hid (fun y wx => IsFinite_any y wx)
  have HD1 := Lib.hid d1
  have HBW := Lib.hid hBW
  have HW : Hid (W = w.alloc (.cells #[.int .i64 r.vars, a, b, c] 33)) := hW
  have hcs : okRows r = false ∨ (okRows r = true ∧ finF step = false) ∨ (okRows r = true ∧ finF step = true ∧ (FloatKind.f32.format.order step 0 == some .gt) = false) ∨ (okRows r = true ∧ finF step = true ∧ (FloatKind.f32.format.order step 0 == some .gt) = true ∧ finF by_ = false) ∨
      (okRows r = true ∧ finF step = true ∧ (FloatKind.f32.format.order step 0 == some .gt) = true ∧ finF by_ = true ∧ (FloatKind.f32.format.order by_ 0 == some .lt) = true) ∨
      (okRows r = true ∧ finF step = true ∧ (FloatKind.f32.format.order step 0 == some .gt) = true ∧ finF by_ = true ∧ (FloatKind.f32.format.order by_ 0 == some .lt) = false ∧ lessO step by_ = none) ∨
      (okRows r = true ∧ finF step = true ∧ (FloatKind.f32.format.order step 0 == some .gt) = true ∧ finF by_ = true ∧ (FloatKind.f32.format.order by_ 0 == some .lt) = false ∧ (∃ less, lessO step by_ = some less) ∧ inB 0 200 rounds = false) := by
    cases h1 : okRows r
    · exact .inl rfl
    cases h2 : finF step
    · exact .inr (.inl ⟨rfl, rfl⟩)
    cases h3 : (FloatKind.f32.format.order step 0 == some .gt)
    · exact .inr (.inr (.inl ⟨rfl, rfl, rfl⟩))
    cases h4 : finF by_
    · exact .inr (.inr (.inr (.inl ⟨rfl, rfl, rfl, rfl⟩)))
    cases h5 : (FloatKind.f32.format.order by_ 0 == some .lt)
    rotate_left
    · exact .inr (.inr (.inr (.inr (.inl ⟨rfl, rfl, rfl, rfl, rfl⟩))))
    cases h6 : lessO step by_ with
    | none => exact .inr (.inr (.inr (.inr (.inr (.inl ⟨rfl, rfl, rfl, rfl, rfl, rfl⟩)))))
    | some less =>
      refine .inr (.inr (.inr (.inr (.inr (.inr ⟨rfl, rfl, rfl, rfl, rfl, ⟨less, rfl⟩, ?_⟩)))))
      rw [stepsOk, h1, aboveF, h2, h3, okBy, h4, h5, h6] at hs
      simpa using hs
  clear ha0 hb0 hc0 hv hs d1 hBW hz
  have HC1 := Lib.hid c1
  clear c1
  rcases hcs with h1 | ⟨h1, h2⟩ | ⟨h1, h2, h3⟩ | ⟨h1, h2, h3, h4⟩ | ⟨h1, h2, h3, h4, h5⟩ | ⟨h1, h2, h3, h4, h5, h6⟩ | ⟨h1, h2, h3, h4, h5, ⟨less, h6⟩, h7⟩
  all_goals rw [h1] at HI
  all_goals try rw [h2] at HFS
  all_goals try rw [h4] at HFB
  all_goals try rw [h7] at HIN
  all_goals clear h1
  all_goals first | (have HY : Hid (∀ wx, finF (f1 wx) = false) := fun wx => by (have := HC1.out wx; rw [show clsF step = some step from if_pos h2, show clsF by_ = some by_ from if_pos h4, show arO .mul (some step) (some by_) = none from h6] at this; exact this)) | (have HY : Hid (∀ wx, finF (f1 wx) = true) := fun wx => by (have := HC1.out wx; rw [show clsF step = some step from if_pos h2, show clsF by_ = some by_ from if_pos h4, show arO .mul (some step) (some by_) = some less from h6] at this; rw [(FV.get this).1]; exact (FV.get this).2)) | (have HY : Hid True := trivial)
  all_goals try clear h2
  all_goals try clear h4
  all_goals try clear h6
  all_goals try clear h7
  all_goals
    have k0 := q0.c0
    have k1 := q0.c1
    have k2 := q0.c2
    have k3 := q0.c3
    go_enter Try.func20, Try.ntmps20
    go_wp2_with fail
    rw [← hW]
    clear hW k0 k1 k2 k3 HW
    refine HI.out.mono ?_
    rintro e w2 ⟨rfl, hb2⟩
    have HB2 := Lib.hid hb2
    have hs2 := hb2.size
    clear hb2
    go_wp2_with (first | (go_at_call 25; refine (HFS.out _).mono ?_; rintro e w3 ⟨rfl, hd3⟩) | (go_at_call 25; refine (HFB.out _).mono ?_; rintro e w4 ⟨rfl, hd4⟩) | (go_at_call 25; refine (HFY.out _ _).mono ?_; rintro e w5 ⟨rfl, hd5⟩; rw [HY.out]) | (go_at_call 41; refine (HIN.out _).mono ?_; rintro e w6 ⟨rfl, rfl⟩))
    go_ret2
    have HB2w := HBW.out.trans (HB2.out.mono HBW.out.size)
    first
    | exact ⟨rfl, HB2w⟩
    | exact ⟨rfl, HB2w.trans (hd3.below _)⟩
    | exact ⟨rfl, HB2w.trans ((hd3.trans hd4).below _)⟩
    | exact ⟨rfl, HB2w.trans ((((hd3.trans hd4).trans (HD1.out _)).trans hd5).below _)⟩
set_option maxHeartbeats 4000000 in
set_option maxRecDepth 100000 in
theorem implSteps_yes (w : World) {l h : Nat} (v : Value) (r : RowsD) (step by_ less : Nat) (R : Nat) (hv : RowsR w l h v r) (hh : h ≤ w.heap.size) (hz : SmallR r) (hs : stepsOk r step by_ R = true) (hl : lessO step by_ = some less) :
    Calls Try.prog 20 #[v, .float .f32 step, .float .f32 by_, .int .i64 R] w fun e w' => ∃ y, e = .returned (.tuple #[y, .bool (resO (runO r step less R (List.replicate r.vars.toNat 0))).2]) ∧ OwnFL w' w.heap.size w'.heap.size y (resO (runO r step less R (List.replicate r.vars.toNat 0))).1 ∧ Below w.heap.size w w' := by
  have hs' := hs
  simp only [stepsOk, Bool.and_eq_true] at hs'
  obtain ⟨⟨⟨⟨o1, o2⟩, o3⟩, o4⟩, _⟩ := hs'
  obtain ⟨V, hV, hV2, hV1, hV8, hb1, hb8, hg8, hnn, hfn, hfb⟩ := rows_nums o1
  obtain ⟨a, b, c, rfl, ha0, hb0, hc0⟩ := hv.ex
  obtain ⟨p1, c1, rfl⟩ := ha0.shape
  rw [hV] at hv ⊢
  rw [show (V : Int).toNat = V from Int.toNat_natCast V]
  obtain ⟨W, hW⟩ : ∃ W, W = w.alloc (.cells #[.int .i64 (V : Int), .slice p1 r.numbers.length c1, b, c] 33) := ⟨_, rfl⟩
  have hBW : Below w.heap.size w W := by rw [hW]; exact alloc_belowR _ _
  have q0 : QuadC W w.heap.size 33 (.int .i64 (V : Int)) (.slice p1 r.numbers.length c1) b c := by rw [hW]; exact QuadC.new _ _ _ _ _ _
  have ha := ha0.below hBW hh
  have hvW := hv.below hBW hh
  have HI := Lib.hid (ValidRows_any _ r W hvW (by have := hBW.size; omega) hz)
  rw [o1] at HI
  obtain ⟨hls, hlf⟩ := less_fin hl
  have hrun : ∀ wx, (binOp .mul 23 (.float .f32 step) (.float .f32 by_)).run Try.prog wx = .ok (.float .f32 less) wx := fun wx => run_float_arith (P := Try.prog) wx .mul 23 .f32 step by_ less hls
  have o3' := o3
  have o2' := o2
  rw [okBy, Bool.and_eq_true] at o3'
  rw [aboveF, Bool.and_eq_true] at o2'
  have hgt : (FloatKind.f32.format.order step 0 == some .gt) = true := o2'.2
  have hlt0 : (FloatKind.f32.format.order by_ 0 == some .lt) = false := by simpa using o3'.2
  have HL0 := Lib.hid (less_ok o2 o3'.1 hlt0 hls)
  have HLF := Lib.hid hlf
  have HSF := Lib.hid o2'.1
  have HIN := Lib.hid (fun wx => within_any (R : Int) 0 200 wx)
  have HFS := Lib.hid (fun wx => IsFinite_any step wx)
  have HFB := Lib.hid (fun wx => IsFinite_any by_ wx)
  have HFY := Lib.hid (fun wx => IsFinite_any less wx)
  rw [o4] at HIN
  rw [o2'.1] at HFS
  rw [o3'.1] at HFB
  rw [hlf] at HFY
  have hR := inB_true o4
  have HQ := Lib.hid q0
  have HA := Lib.hid ha
  have HRV := Lib.hid hvW
  have HBW := Lib.hid hBW
  have HO1 := Lib.hid o1
  have HZ := Lib.hid hz
  have HN := Lib.hid (And.intro hV (And.intro hV2 (And.intro hnn (And.intro hfn hfb))))
  have hzW := hBW.size
  have hmk := flts_made V (by omega)
  have k0 := q0.c0
  have k1 := q0.c1
  have k2 := q0.c2
  have k3 := q0.c3
  clear ha ha0 hb0 hc0 hv q0 hs hl hls hlf o1 o2 o3 o2' o3' o4 hBW hnn hfn hfb hV hV2 hvW hz
  go_enter Try.func20, Try.ntmps20
  go_wp2_with fail
  rw [← hW]
  clear hW k0 k1 k2 k3
  refine HI.out.mono ?_
  rintro e w2 ⟨rfl, hb2⟩
  have HB2 := Lib.hid hb2
  have hs2 := hb2.size
  clear hb2
  go_wp2_with (first | (go_at_call 25; refine (HFS.out _).mono ?_; rintro e w3 ⟨rfl, hd3⟩) | (go_at_call 25; refine (HFB.out _).mono ?_; rintro e w4 ⟨rfl, hd4⟩) | (go_at_call 25; refine (HFY.out _).mono ?_; rintro e w5 ⟨rfl, hd5⟩) | (go_at_call 41; refine (HIN.out _).mono ?_; rintro e w6 ⟨rfl, rfl⟩; have hd7 := (hd3.trans hd4).trans hd5; have q00 := (HQ.out.below (HB2.out.trans (hd7.below _)) HQ.out.lt).c0))
  have hwn : W.heap.size ≤ w5.heap.size := by rw [hd7.heap]; exact hs2
  have hK1 := (HB2.out.trans (hd7.below W.heap.size)).alloc hwn (.cells (madeCells #[Value.float .f32 0] V) 23)
  have hrow := flts_row w5 V (by omega)
  have HX0 : Hid (OwnFL (w5.alloc (.cells (madeCells #[Value.float .f32 0] V) 23)) W.heap.size (w5.alloc (.cells (madeCells #[Value.float .f32 0] V) 23)).heap.size (.slice (some ⟨w5.heap.size, 0, none⟩) V V) (List.replicate V 0)) := by
    have hx := hrow.own (hi := w5.heap.size + 1) (by omega) (by omega) (by simp)
    exact hx.mono hwn (by simp) (Nat.le_refl _)
  have HK1 := Lib.hid hK1
  clear hK1 hrow q00 hmk
  go_wp2_with fail
  go_loopw [3, 10] (fun i ov wr => ∃ (t : Nat) (xs : List Nat), t ≤ R ∧ i = .int .i64 t ∧ OwnFL wr W.heap.size wr.heap.size ov xs ∧ Hid (xs.length = V ∧ allFin xs = true) ∧ Hid (runO r step less t xs = runO r step less R (List.replicate V 0)) ∧ Below W.heap.size W wr) (fun i _ _ => (intOf i).toNat)
  case atStart => exact ⟨R, _, Nat.le_refl _, rfl, HX0.out, Lib.hid ⟨by simp, zeros_fin V⟩, Lib.hid rfl, HK1.out⟩
  case round =>
    obtain ⟨t, xs, ht, rfl, hown, HXS, HRUN, hbr⟩ := hrel
    have hsr := hbr.size
    have HBR := Lib.hid hbr
    obtain ⟨xa, xc, rfl⟩ := hown.rd.shape
    have HOX := Lib.hid hown
    by_cases hlt : 0 < t
    · obtain ⟨m, rfl⟩ : ∃ m, t = m + 1 := ⟨t - 1, by omega⟩
      have hqr := HQ.out.below hbr HQ.out.lt
      have k0 := hqr.c0
      have k1 := hqr.c1
      have k2 := hqr.c2
      have k3 := hqr.c3
      have HLO := Lib.hid (implLeftOf_any wr _ r _ xs (HRV.out.below hbr (by omega)) (show h ≤ wr.heap.size by omega) HZ.out hown.rd (Nat.le_refl _) HO1.out (by rw [HN.out.1, HXS.out.1]) HXS.out.2)
      clear hqr hown hbr
      go_wp2_with fail
      refine HLO.out.mono ?_
      rintro e w8 ⟨lv, rfl, hol, hb8w⟩
      clear k0 k1 k2 k3
      have hs8 := hb8w.size
      have HK8 := Lib.hid (HBR.out.trans (hb8w.mono hsr))
      have HX8 := Lib.hid (HOX.out.below hb8w (Nat.le_refl _))
      cases hL : leftO r xs with
      | none =>
        have HE : Hid (runO r step less R (List.replicate V 0) = none) := by rw [Hid, ← HRUN.out]; exact run_none1 hL
        clear hol hL
        go_wp2
        go_ret2
        exact ⟨_, by rw [HE.out]; rfl, by rw [HE.out]; exact OwnFL.nil _ _ _ (Nat.le_refl _), HBW.out.trans (HK8.out.mono hzW)⟩
      | some left =>
        rw [hL] at hol
        have hol : OwnFL w8 wr.heap.size w8.heap.size lv left := hol
        obtain ⟨la, lc, rfl⟩ := hol.rd.shape
        have HL := Lib.hid hL
        have HLS := Lib.hid (leftO_some hL)
        have HOL := Lib.hid (hol.mono (Nat.zero_le _) (Nat.le_refl _) (Nat.le_refl _))
        have HLEN : Hid (left.length = r.bounds.length) := HLS.out.2
        have hW8 : W.heap.size ≤ w8.heap.size := by omega
        have HCP := Lib.hid (copyNumbers_any _ xs w8 HX8.out.rd hs8 (by rw [HXS.out.1]; omega))
        clear hol hL hb8w
        go_wp2_with fail
        refine HCP.out.mono ?_
        rintro e w9 ⟨nv, rfl, hon, hb9⟩
        rcases hon.rowOf with ⟨_, hnil⟩ | ⟨ng, nc, rfl, hng1, hnc1, hnc2, hrow⟩
        · exfalso; have := HXS.out.1; rw [hnil] at this; simp at this; omega
        have hs9 := hb9.size
        have HB9 := Lib.hid hb9
        have HROW := Lib.hid hrow
        have hngl := hrow.lt
        have hngg := hrow.ge
        clear hon hb9 hrow
        go_wp2_with fail
        go_loopw [71] (fun kk wr => ∃ (k : Nat) (zs Z : List Nat), k ≤ xs.length ∧ kk = .int .i64 k ∧ RowFL wr w8.heap.size ng xs.length nc Z ∧ Hid (Z = zs ++ xs.drop k) ∧ Hid (FVs ((List.range k).map (nextAt r step xs left)) zs) ∧ Below w8.heap.size w8 wr) (fun kk _ => xs.length - (intOf kk).toNat)
        case atStart => exact ⟨0, [], xs, Nat.zero_le _, rfl, HROW.out, Lib.hid rfl, Lib.hid trivial, HB9.out⟩
        case round =>
          obtain ⟨k, zs, Z, hk, rfl, hrw, HZZ, HV, hbr⟩ := hrel
          obtain ⟨wk, hwk⟩ : ∃ x : World, x = wr := ⟨_, rfl⟩
          rw [← hwk] at hrw hbr ⊢
          clear hwk
          have hsk := hbr.size
          have HBK := Lib.hid hbr
          have HKW := Lib.hid (HK8.out.trans (hbr.mono hW8))
          have HRW0 := Lib.hid hrw
          have hngk := hrw.lt
          have HZL := Lib.hid (show zs.length = k by rw [HV.out.len]; simp)
          clear hbr hrw
          by_cases hkx : k < xs.length
          · have hkV : k < V := by rw [← HXS.out.1]; exact hkx
            have HLK := Lib.hid (HOL.out.rd.below HBK.out (Nat.le_refl _))
            obtain ⟨xk, hxk'⟩ : ∃ y, y = xs.getD k 0 := ⟨_, rfl⟩
            have HXK := Lib.hid hxk'
            have HXF := Lib.hid (show finF xk = true by rw [hxk']; exact getD_fin HXS.out.2 hkx)
            clear hxk'
            go_wp2_with fail
            go_loopw [15, 76] (fun s ii wr => ∃ (i acc : Nat) (ac : Option Nat), i ≤ left.length ∧ ii = .int .i64 i ∧ s = .float .f32 acc ∧ Hid (FV ac acc) ∧ Hid (sumGo r left k ac i (r.bounds.length - i) = sumO r left k) ∧ Below wk.heap.size wk wr) (fun _ ii _ => left.length - (intOf ii).toNat)
            case atStart => exact ⟨0, 0, some 0, Nat.zero_le _, rfl, rfl, Lib.hid (FV.fin (by decide)), Lib.hid rfl, Below.refl _ _⟩
            case round =>
              obtain ⟨i, acc, ac, hi, rfl, rfl, HVS, HSUM, hbi⟩ := hrel
              have hsi := hbi.size
              have HBI := Lib.hid hbi
              by_cases hil : i < left.length
              · have hin : i < r.bounds.length := by rw [← HLEN.out]; exact hil
                have hqi := HQ.out.below (HKW.out.trans (hbi.mono (by omega))) HQ.out.lt
                have k0 := hqi.c0
                have k1 := hqi.c1
                have k2 := hqi.c2
                have k3 := hqi.c3
                obtain ⟨_, _, hle, _, _, hld⟩ := (HLK.out.below hbi (by omega)).out
                simp only [Value.slice.injEq] at hle
                obtain ⟨rfl, _, rfl⟩ := hle
                rcases hld with hld | ⟨lb, lo, rfl, hlb1, hlb2, hlb3, hlcell⟩
                · rw [hld] at hil; simp at hil
                have hcl := hlcell i hil
                obtain ⟨hV, hV2, hnn, hfn, hfb⟩ := HN.out
                obtain ⟨nx, hnx⟩ : ∃ y, y = r.numbers.getD (i * V + k) 0 := ⟨_, rfl⟩
                obtain ⟨ly, hly⟩ : ∃ y, y = left.getD i 0 := ⟨_, rfl⟩
                rw [← hly] at hcl
                have HS := Lib.hid (sum_step (r := r) (left := left) (k := k) (n := r.bounds.length) ac hin)
                rw [hV2, ← hnx, ← hly] at HS
                have HNF := Lib.hid (show finF nx = true by rw [hnx]; exact getD_fin hfn (by rw [hnn]; exact num_lt hin hkV))
                have HLF2 := Lib.hid (show finF ly = true by rw [hly]; exact getD_fin HLS.out.1 hil)
                have HROW3 := Lib.hid (row_any r V i _ wr (HRV.out.below (HKW.out.trans (hbi.mono (by omega))) (by omega)) (show h ≤ wr.heap.size by omega) hV hV1 hV8 hin hb8 hnn)
                obtain ⟨row, hrow⟩ : ∃ z, z = (r.numbers.drop (i * V)).take V := ⟨_, rfl⟩
                rw [← hrow] at HROW3
                have HRL := Lib.hid (show k < row.length by
                  have := row_arith (V := V) hin
                  rw [hrow, List.length_take, List.length_drop, hnn]; omega)
                have HRG := Lib.hid (show row.getD k 0 = nx by rw [hrow, hnx]; exact row_get hkV)
                clear hlcell hnx hly hV hV2 hnn hfn hfb hrow hqi hbi
                go_wp2_with fail
                refine HROW3.out.mono ?_
                rintro e w10 ⟨u3, rfl, hf3, hb10⟩
                obtain ⟨_, rcap, rfl, hrc1, hrc2, hrd⟩ := hf3.out
                have hkr := HRL.out
                rcases hrd with hrd | ⟨rb, ro, rfl, hrb1, hrb2, hrb3, hrcell⟩
                · rw [hrd] at hkr; simp at hkr
                have hcr := hrcell k hkr
                rw [HRG.out] at hcr
                obtain ⟨f1, g1, r1, d1, c1'⟩ := ar_any (op := .mul) (.inr (.inr rfl)) (FV.fin HNF.out) (FV.fin HLF2.out)
                obtain ⟨f2, g2, r2, d2, c2'⟩ := ar_any (op := .add) (.inl rfl) HVS.out (c1' w10)
                have HC2 := Lib.hid (c2' (g1 w10))
                have HDR := Lib.hid ((d1 w10).trans (d2 _))
                have HB10 := Lib.hid ((HBI.out.trans (hb10.mono hsi)).trans (HDR.out.below _))
                clear hrcell c1' c2' d1 d2 hb10 hf3
                go_wp2
                go_roundw
                case rel => exact ⟨i + 1, _, _, by omega, by go_num, rfl, HC2, Lib.hid (by rw [← HSUM.out, HS.out]), HB10.out⟩
                case measure => simp [intOf]; omega
              · have HE2 := Lib.hid (sum_end (r := r) (left := left) (k := k) (i := i) (n := r.bounds.length) ac (by have := HLEN.out; omega))
                have HVF : Hid (FV (sumO r left k) acc) := by rw [Hid, ← HSUM.out, HE2.out]; exact HVS.out
                obtain ⟨f1, g1, r1, d1, c1'⟩ := ar_any (op := .mul) (.inr (.inr rfl)) (FV.fin HSF.out) HVF.out
                obtain ⟨f2, g2, r2, d2, c2'⟩ := ar_any (op := .add) (.inl rfl) (FV.fin HXF.out) (c1' wr)
                have HC2 := Lib.hid (c2' (g1 wr))
                have HDR := Lib.hid ((d1 wr).trans (d2 _))
                have hrwi := HRW0.out.below hbi hngk
                have hcZ := hrwi.cell hkx
                rw [show Z.getD k 0 = xk by rw [HZZ.out, HXK.out]; exact get_mid HZL.out hkx] at hcZ
                have hrwj := hrwi.drew HDR.out
                have hcZ2 := hrwj.cell hkx
                have hfZ2 := hrwj.frozen k
                have HST := Lib.hid (hrwj.stored k (f2 (g1 wr)))
                have HBj := Lib.hid ((HBK.out.trans (hbi.mono hsk)).trans (HDR.out.below _))
                have HV9 : Hid (FVs ((List.range (k + 1)).map (nextAt r step xs left)) (zs ++ [f2 (g1 wr)])) := by
                  rw [Hid, next_succ]; refine FVs.snoc HV.out ?_; rw [nextAt, ← HXK.out]; exact HC2.out
                have HZ9 : Hid (Z.set k (f2 (g1 wr)) = (zs ++ [f2 (g1 wr)]) ++ xs.drop (k + 1)) := by rw [Hid, HZZ.out]; exact set_mid HZL.out hkx
                have hngg2 : w8.heap.size ≤ ng := hngg
                clear c1' c2' d1 d2 hrwi hrwj hbi
                go_wp2
                go_roundw
                case rel => exact ⟨k + 1, _, _, by omega, by go_num, HST.out, HZ9, HV9, HBj.out.setCell (p := ⟨ng, k, none⟩) hngg2 _⟩
                case measure => simp [intOf]; omega
          · obtain rfl : k = xs.length := by omega
            have hZe : Z = zs := by rw [HZZ.out, List.drop_length, List.append_nil]
            subst hZe
            have hng2 : ng < wk.heap.size := hngk
            have hrd0 := HRW0.out.rd (hi := wk.heap.size) hng2 (Nat.le_refl _)
            have HRD := Lib.hid hrd0
            have HLL := Lib.hid (areFinite_any _ Z wk hrd0)
            have HAL := Lib.hid (FVs.all HV.out)
            have HNO : Hid (nextO r step xs left = seqO ((List.range xs.length).map (nextAt r step xs left))) := by rw [Hid, nextO, HN.out.2.1, HXS.out.1]
            clear hrd0
            rcases HAL.out with ⟨h1, h2⟩ | ⟨h1, h2⟩
            · rw [h1] at HLL
              have HE := Lib.hid (HNO.out.trans h2)
              have HZF := Lib.hid h1
              clear h1 h2
              go_wp2_with fail
              refine HLL.out.mono ?_
              rintro e w10 ⟨rfl, hd10⟩
              have HSH := Lib.hid (shrunk_any _ Z less w10 (HRD.out.drew hd10) (by rw [hd10.heap]; exact Nat.le_refl _) (by rw [HZL.out, HXS.out.1]; omega) HZF.out HLF.out HL0.out)
              have HD10 := Lib.hid hd10
              clear hd10
              go_wp2_with fail
              refine HSH.out.mono ?_
              rintro e w11 ⟨nx, rfl, hon, hb11⟩
              have hzz : W.heap.size ≤ w10.heap.size := by rw [HD10.out.heap]; omega
              have HB11 := Lib.hid ((HKW.out.trans (HD10.out.below _)).trans (hb11.mono hzz))
              have HFF := Lib.hid (areFinite_any _ _ w11 hon.rd)
              rw [shrinkL_fin HLF.out HL0.out Z HZF.out] at HFF
              have HON := Lib.hid hon
              clear hon hb11
              have HRUN2 : Hid (runO r step less m (shrinkL less Z) = runO r step less R (List.replicate V 0)) := by
                rw [Hid, ← HRUN.out, run_some HL.out HE.out]
              go_wp2_with fail
              refine HFF.out.mono ?_
              rintro e w12 ⟨rfl, hd12⟩
              have hzz2 : w11.heap.size ≤ w12.heap.size := by rw [hd12.heap]; exact Nat.le_refl _
              go_wp2
              go_roundw
              case rel => exact ⟨m, _, by omega, by go_num, (HON.out.drew hd12).mono hzz hzz2 (Nat.le_refl _), Lib.hid ⟨by rw [shrinkL_len, HZL.out, HXS.out.1], shrinkL_fin HLF.out HL0.out Z HZF.out⟩, HRUN2, HB11.out.trans (hd12.below _)⟩
              case measure => simp [intOf]
            · rw [h1] at HLL
              have HE := Lib.hid (HNO.out.trans h2)
              clear h1 h2
              have HE2 : Hid (runO r step less R (List.replicate V 0) = none) := by rw [Hid, ← HRUN.out]; exact run_none2 HL.out HE.out
              go_wp2_with fail
              refine HLL.out.mono ?_
              rintro e w10 ⟨rfl, hd10⟩
              go_wp2
              go_ret2
              exact ⟨_, by rw [HE2.out]; rfl, by rw [HE2.out]; exact OwnFL.nil _ _ _ (Nat.le_refl _), HBW.out.trans ((HKW.out.trans (hd10.below _)).mono hzW)⟩
    · obtain rfl : t = 0 := by omega
      have HE : Hid (runO r step less R (List.replicate V 0) = some xs) := by rw [Hid, ← HRUN.out, runO]
      go_wp2
      go_ret2
      exact ⟨_, by rw [HE.out]; rfl, by rw [HE.out]; exact HOX.out.mono hzW (Nat.le_refl _) (Nat.le_refl _), HBW.out.trans (HBR.out.mono hzW)⟩
theorem implShrinkSteps_any (w : World) {l h : Nat} (v : Value) (r : RowsD) (step by_ : Nat) (rounds : Int) (hv : RowsR w l h v r) (hh : h ≤ w.heap.size) (hz : SmallR r) (_k1 : F32 step) (_k2 : F32 by_) (_k3 : I64 rounds) :
    Calls Try.prog 20 #[v, .float .f32 step, .float .f32 by_, .int .i64 rounds] w fun e w' => ∃ y, e = .returned (.tuple #[y, .bool (shrinkSteps r step by_ rounds).2]) ∧ OwnFL w' w.heap.size w'.heap.size y (shrinkSteps r step by_ rounds).1 ∧ Below w.heap.size w w' := by
  cases hs : stepsOk r step by_ rounds
  · rw [shrinkSteps_no hs]
    exact (implSteps_no w v r step by_ rounds hv hh hz hs).mono fun e w' ⟨h1, h2⟩ => ⟨_, h1, OwnFL.nil _ _ _ (Nat.le_refl _), h2⟩
  · have hs' := hs
    simp only [stepsOk, Bool.and_eq_true] at hs'
    obtain ⟨⟨_, o4⟩, o5⟩ := hs'
    obtain ⟨less, hl⟩ := Option.isSome_iff_exists.1 o5
    obtain ⟨R, rfl⟩ : ∃ R : Nat, rounds = (R : Int) := ⟨rounds.toNat, by have := inB_true o4; omega⟩
    rw [shrinkSteps_yes hs hl, Int.toNat_natCast]
    exact implSteps_yes w v r step by_ less R hv hh hz hs hl
end Go.Proofs.Ytocngcpdpeflnaa
