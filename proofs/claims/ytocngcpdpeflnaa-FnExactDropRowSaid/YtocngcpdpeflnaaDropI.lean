/-
  impl.DropRow.
-/
import Derived.Test.YtocngcpdpeflnaaDropS
namespace Go.Proofs.Ytocngcpdpeflnaa
open Go.RowKit
set_option linter.unusedVariables false
set_option maxRecDepth 100000

theorem OwnR.name {w : World} {lo hi : Nat} {v : Value} {r : RowsD} (h : OwnR w lo hi v r) : ∃ g, OwnR w lo hi v g ∧ Hid (g = r) := ⟨r, h, Lib.hid rfl⟩
set_option maxHeartbeats 4000000 in
set_option maxRecDepth 100000 in
theorem implDropRow_any (w : World) {l h : Nat} (v : Value) (r : RowsD) (i : Int) (hv : RowsR w l h v r) (hh : h ≤ w.heap.size) (hz : SmallR r) (ki : I64 i) :
    Calls Try.prog 15 #[v, .int .i64 i] w fun e w' => ∃ u, e = .returned (.tuple #[u, .bool (dropRow r i).2]) ∧ OwnR w' w.heap.size w'.heap.size u (dropRow r i).1 ∧ Below w.heap.size w w' := by
  have HZ0 := Lib.hid hz
  unfold SmallR at hz
  obtain ⟨a, b, c, rfl, ha0, hb0, hc0⟩ := hv.ex
  have hrg := hv.rng
  obtain ⟨p1, c1, rfl⟩ := ha0.shape
  obtain ⟨p2, c2, rfl⟩ := hb0.shape
  obtain ⟨p3, c3, rfl⟩ := hc0.shape
  obtain ⟨W, hW⟩ : ∃ W, W = (w.alloc (.cells #[.int .i64 r.vars, .slice p1 r.numbers.length c1, .slice p2 r.bounds.length c2, .slice p3 r.gains.length c3] 33)).alloc (.cells #[.int .i64 0, .slice none 0 0, .slice none 0 0, .slice none 0 0] 33) := ⟨_, rfl⟩
  have hBW : Below w.heap.size w W := by rw [hW]; exact ((Below.refl _ _).alloc (Nat.le_refl _) _).alloc (by simp) _
  have hsW : W.heap.size = w.heap.size + 2 := by rw [hW]; simp
  have q0 : QuadC W w.heap.size 33 (.int .i64 r.vars) (.slice p1 r.numbers.length c1) (.slice p2 r.bounds.length c2) (.slice p3 r.gains.length c3) := by rw [hW]; exact (QuadC.new _ _ _ _ _ _).alloc _
  have q1 : QuadC W (w.heap.size + 1) 33 (.int .i64 0) (.slice none 0 0) (.slice none 0 0) (.slice none 0 0) := by
    rw [hW]
    have := QuadC.new (w.alloc (.cells #[.int .i64 r.vars, .slice p1 r.numbers.length c1, .slice p2 r.bounds.length c2, .slice p3 r.gains.length c3] 33)) 33 (.int .i64 0) (.slice none 0 0) (.slice none 0 0) (.slice none 0 0)
    rwa [World.size_alloc] at this
  have HVW := Lib.hid (hv.below hBW hh)
  have HV := Lib.hid (ValidRows_any _ r W (hv.below hBW hh) (by omega) HZ0.out)
  have HIN := Lib.hid (fun wx => isIndex_any i r.bounds.length (by omega) wx)
  have HBW := Lib.hid hBW
  clear hv ha0 hb0 hc0
  cases ho : (okRows r && inB 0 ((r.bounds.length : Int) - 1) i)
  · have HE := Lib.hid (show dropRow r i = (⟨0, [], [], []⟩, false) by
      rw [dropRow, if_neg]
      rw [Bool.and_eq_false_iff] at ho
      rcases ho with ho | ho <;> simp [ho])
    have hs3 : (okRows r = false) ∨ (okRows r = true ∧ inB 0 ((r.bounds.length : Int) - 1) i = false) := by
      rw [Bool.and_eq_false_iff] at ho
      cases h1 : okRows r
      · exact .inl rfl
      · rw [h1] at ho
        rcases ho with ho | ho
        · cases ho
        · exact .inr ⟨rfl, ho⟩
    clear ho
    rcases hs3 with h1 | ⟨h1, h3⟩
    all_goals rw [h1] at HV
    all_goals try rw [h3] at HIN
    all_goals clear h1
    all_goals try clear h3
    all_goals
      go_enter Try.func15, Try.ntmps15
      go_wp2_with fail
      rw [← hW]
      clear hW
      refine HV.out.mono ?_
      rintro e w2 ⟨rfl, e1⟩
      have s2 := e1.size
      have r1 := q1.below e1 (by omega)
      have r0 := q0.below e1 (by omega)
      have k2 := r0.c2
      have j0 := r1.c0
      have j1 := r1.c1
      have j2 := r1.c2
      have j3 := r1.c3
      have f0 := r1.f0
      have f1 := r1.f1
      have f2 := r1.f2
      have f3 := r1.f3
      have hB2 : Below w.heap.size w w2 := HBW.out.trans (e1.mono (by omega))
      have HB2 := Lib.hid hB2
      clear q0 q1 r1 r0 hB2 hBW s2 hsW
      go_wp2_with (go_at_call 33; refine (HIN.out _).mono ?_; rintro e w3 ⟨rfl, rfl⟩)
      have hS := ((((Same.refl (w.heap.size + 1) (w.heap.size + 2) w2).setCell (p := ⟨w.heap.size + 1, 0, none⟩) (by simp) (by simp) (.int .i64 0)).setCell (p := ⟨w.heap.size + 1, 1, none⟩) (by simp) (by simp) (.slice none 0 0)).setCell (p := ⟨w.heap.size + 1, 2, none⟩) (by simp) (by simp) (.slice none 0 0)).setCell (p := ⟨w.heap.size + 1, 3, none⟩) (by simp) (by simp) (.slice none 0 0)
      have hBe := HB2.out.trans (hS.below (Nat.le_succ _) HB2.out.size)
      refine bodyPost_ret (v := .tuple #[.agg #[.int .i64 0, .slice none 0 0, .slice none 0 0, .slice none 0 0], .bool false]) (by simp [results, Try.results15, go_sem, j0, j1, j2, j3]) rfl ⟨_, by rw [HE.out], by rw [HE.out]; exact noRows _ _ _ hBe.size (Nat.le_refl _), hBe⟩
  · rw [Bool.and_eq_true] at ho
    obtain ⟨ho1, ho3⟩ := ho
    have HOK := Lib.hid ho1
    obtain ⟨o1, o2, o3, o4, _⟩ := okRows_out ho1
    have hg8 : r.gains.length ≤ 8 := by have u1 := inB_true o1; omega
    clear o3
    have HNUM : Hid (∃ V : Nat, r.vars = (V : Int) ∧ 1 ≤ V ∧ V ≤ 8 ∧ r.bounds.length ≤ 8 ∧ r.numbers.length = V * r.bounds.length) := by
      have u1 := inB_true o1
      have u2 := inB_true o2
      obtain ⟨V, hV⟩ : ∃ V : Nat, r.vars = (V : Int) := ⟨r.vars.toNat, by omega⟩
      refine ⟨V, hV, by omega, by omega, by omega, ?_⟩
      have : ((V * r.bounds.length : Nat) : Int) = (V : Int) * (r.bounds.length : Int) := by simp
      rw [hV] at o4
      omega
    clear o1 o2 o4
    have HIB := Lib.hid ho3
    rw [ho1] at HV
    rw [ho3] at HIN
    have v3 := inB_true ho3
    clear ho1 ho3
    go_enter Try.func15, Try.ntmps15
    go_wp2_with fail
    rw [← hW]
    clear hW
    refine HV.out.mono ?_
    rintro e W1 ⟨rfl, e1⟩
    have s2 := e1.size
    have r1 := q1.below e1 (by omega)
    have r0 := q0.below e1 (by omega)
    have k2 := r0.c2
    have HR0 := Lib.hid r0
    have HR1 := Lib.hid r1
    have HRV := Lib.hid (HVW.out.below e1 (by omega))
    have HBW1 := Lib.hid (HBW.out.trans (e1.mono (by omega)))
    obtain ⟨xa0, xb0, xc0, hxe, ha1, hb1, hc1⟩ := HRV.out.ex
    simp only [Value.agg.injEq, Array.mk.injEq, List.cons.injEq, and_true, true_and] at hxe
    obtain ⟨rfl, rfl, rfl⟩ := hxe
    have HA1 := Lib.hid ha1
    have HB1 := Lib.hid hb1
    have hhW : w.heap.size + 2 ≤ W1.heap.size := by omega
    clear q0 q1 hBW hsW e1 s2 HV ha1 hb1
    go_wp2_with (go_at_call 33; refine (HIN.out _).mono ?_; rintro e w3 ⟨rfl, rfl⟩)
    have hdD : Drew W1 W1.drew := ⟨1, rfl⟩
    have hK : Hid (∀ w' : World, Below W1.heap.size W1 w' → w'.cell? ⟨w.heap.size, 0, none⟩ = some (.int .i64 r.vars) ∧ w'.cell? ⟨w.heap.size, 3, none⟩ = some (.slice p3 r.gains.length c3)) := fun w' hb => ⟨(r0.below hb r0.lt).c0, (r0.below hb r0.lt).c3⟩
    have hgl : r.gains.length ≤ 1048576 := by omega
    have kD := hdD.below W1.heap.size
    have HCA := Lib.hid (copyNumbers_any _ r.gains W1.drew (hc1.drew hdD) (show h ≤ W1.heap.size by omega) hgl)
    have kZ : Below W1.heap.size W1 (W1.drew.alloc (.cells #[.int .i64 0, .slice none 0 0, .slice none 0 0, .slice none 0 0] 33)) := kD.alloc (Nat.le_refl _) _
    have qB : QuadC (W1.drew.alloc (.cells #[.int .i64 0, .slice none 0 0, .slice none 0 0, .slice none 0 0] 33)) W1.heap.size 33 (.int .i64 0) (.slice none 0 0) (.slice none 0 0) (.slice none 0 0) := QuadC.new W1.drew 33 (.int .i64 0) (.slice none 0 0) (.slice none 0 0) (.slice none 0 0)
    have HCB := Lib.hid (copyNumbers_any _ r.gains (W1.drew.alloc (.cells #[.int .i64 0, .slice none 0 0, .slice none 0 0, .slice none 0 0] 33)) (hc1.below kZ (by omega)) (by have := kZ.size; omega) hgl)
    have HQB := Lib.hid qB
    have HZ := Lib.hid kZ
    have zB : (W1.drew.alloc (.cells #[.int .i64 0, .slice none 0 0, .slice none 0 0, .slice none 0 0] 33)).heap.size = W1.heap.size + 1 := by simp
    have HZB := Lib.hid zB
    clear kZ qB zB hc1 r0 r1
    go_region_held3 (fun w' => w'.cell? ⟨w.heap.size, 0, none⟩ = some (.int .i64 r.vars) ∧ w'.cell? ⟨w.heap.size, 3, none⟩ = some (.slice p3 r.gains.length c3)) (first | exact hK.out _ kD | exact hK.out _ HZ.out | exact hK.out _ jb | exact hK.out _ (jb.alloc jz _) | exact hK.out _ ((((jb.setCell (by simp) _).setCell (by simp) _).setCell (by simp) _).setCell (by simp) _)) (first | (go_at_call 34; refine HCA.out.mono ?_; rintro e w5 ⟨u5, rfl, ho5, hb5⟩; obtain ⟨ya, yc, rfl⟩ := ho5.rd.shape; have jb := kD.trans hb5; have jz := jb.size) | (go_at_call 34; refine HCB.out.mono ?_; rintro e w5 ⟨u5, rfl, ho5, hb5⟩; obtain ⟨ya, yc, rfl⟩ := ho5.rd.shape; have jb := HZ.out.trans (hb5.mono HZ.out.size); have jz := jb.size; have qz := HQB.out.below hb5 HQB.out.lt; have y0 := qz.c0; have y1 := qz.c1; have y2 := qz.c2; have y3 := qz.c3; have t0 := qz.f0; have t1 := qz.f1; have t2 := qz.f2; have t3 := qz.f3))
    have hq2 := QuadC.new w5 33 (.int .i64 r.vars) (.slice none 0 0) (.slice none 0 0) (.slice ya r.gains.length yc)
    have ho6 := ho5.alloc (.cells #[.int .i64 r.vars, .slice none 0 0, .slice none 0 0, .slice ya r.gains.length yc] 33)
    have hd2 : DropC (w5.alloc (.cells #[.int .i64 r.vars, .slice none 0 0, .slice none 0 0, .slice ya r.gains.length yc] 33)) W1.heap.size w5.heap.size ⟨r.vars, [], [], r.gains⟩ := DropC.start hq2 ho6 (Nat.le_refl _) jz (.inr (Nat.le_refl _)) (by simp; omega)
    have jb2 := jb.alloc jz (.cells #[.int .i64 r.vars, .slice none 0 0, .slice none 0 0, .slice ya r.gains.length yc] 33)
    obtain ⟨W2, hW2⟩ : ∃ X, X = w5.alloc (.cells #[.int .i64 r.vars, .slice none 0 0, .slice none 0 0, .slice ya r.gains.length yc] 33) := ⟨_, rfl⟩
    obtain ⟨q, hqe⟩ : ∃ q, q = w5.heap.size := ⟨_, rfl⟩
    have hqge : W1.heap.size ≤ q := by omega
    rw [← hW2, ← hqe] at hd2
    rw [← hW2] at jb2
    rw [← hW2, ← hqe]
    clear hW2 hqe hq2 ho6
    rotate_left
    have hq3 := (((qz.set0 (.int .i64 r.vars)).set1 (.slice none 0 0)).set2 (.slice none 0 0)).set3 (.slice ya r.gains.length yc)
    have hS4 := ((((Same.refl (W1.heap.size) (W1.heap.size + 1) w5).setCell (p := ⟨W1.heap.size, 0, none⟩) (Nat.le_refl _) (Nat.lt_succ_self _) (.int .i64 r.vars)).setCell (p := ⟨W1.heap.size, 1, none⟩) (Nat.le_refl _) (Nat.lt_succ_self _) (.slice none 0 0)).setCell (p := ⟨W1.heap.size, 2, none⟩) (Nat.le_refl _) (Nat.lt_succ_self _) (.slice none 0 0)).setCell (p := ⟨W1.heap.size, 3, none⟩) (Nat.le_refl _) (Nat.lt_succ_self _) (.slice ya r.gains.length yc)
    have zB := HZB.out
    have ho7 := ho5.same hS4 (.inr (by rw [zB]; exact Nat.le_refl _))
    have hz7 := hS4.size
    have hd3 : DropC ((((w5.setCell ⟨W1.heap.size, 0, none⟩ (.int .i64 r.vars)).setCell ⟨W1.heap.size, 1, none⟩ (.slice none 0 0)).setCell ⟨W1.heap.size, 2, none⟩ (.slice none 0 0)).setCell ⟨W1.heap.size, 3, none⟩ (.slice ya r.gains.length yc)) W1.heap.size (W1.heap.size) ⟨r.vars, [], [], r.gains⟩ := DropC.start hq3 ho7 (by rw [zB]; omega) (by omega) (.inl (by rw [zB]; exact Nat.le_refl _)) (by omega)
    have jb2 := jb.trans (hS4.below (B := W1.heap.size) (by omega) (by omega))
    obtain ⟨W2, hW2⟩ : ∃ X, X = (((w5.setCell ⟨W1.heap.size, 0, none⟩ (.int .i64 r.vars)).setCell ⟨W1.heap.size, 1, none⟩ (.slice none 0 0)).setCell ⟨W1.heap.size, 2, none⟩ (.slice none 0 0)).setCell ⟨W1.heap.size, 3, none⟩ (.slice ya r.gains.length yc) := ⟨_, rfl⟩
    obtain ⟨q, hqe⟩ : ∃ q, q = W1.heap.size := ⟨_, rfl⟩
    have hqge : W1.heap.size ≤ q := by omega
    rw [← hW2] at jb2 hd3
    have hd2 : DropC W2 W1.heap.size q ⟨r.vars, [], [], r.gains⟩ := by rw [hqe]; exact hd3
    rw [← hW2, ← hqe]
    clear hW2 hqe hd3 ho7 hS4 hq3 hz7 qz y0 y1 y2 y3 t0 t1 t2 t3 zB
    rotate_left
    all_goals
      have HD2 := Lib.hid hd2
      have HJ2 := Lib.hid jb2
      clear hd2 jb2 ho5 hb5 jb jz HCA HCB HQB HZ HZB hdD hK kD
      have k2b := (HR0.out.below HJ2.out HR0.out.lt).c2
      go_wp2_with fail
      clear k2b
      go_loopw [30] (fun kk wr => ∃ k : Nat, k ≤ r.bounds.length ∧ kk = .int .i64 k ∧ DropC wr W1.heap.size q ⟨r.vars, dropN r.numbers r.vars.toNat i.toNat k, dropB r.bounds i.toNat k, r.gains⟩ ∧ Below W1.heap.size W1 wr) (fun kk _ => r.bounds.length - (intOf kk).toNat)
      case atStart => exact ⟨0, Nat.zero_le _, rfl, HD2.out, HJ2.out⟩
      case round =>
        obtain ⟨k, hk, rfl, hD, hb⟩ := hrel
        have hsr := hb.size
        have HDr := Lib.hid hD
        have HBr := Lib.hid hb
        have hr0 := HR0.out.below hb HR0.out.lt
        have k0 := hr0.c0
        have k1 := hr0.c1
        have k2 := hr0.c2
        have k3 := hr0.c3
        have hbd5 := HB1.out.below hb (by omega)
        obtain ⟨pB, cB, hBe, hcB, _, hbd6⟩ := hbd5.out
        simp only [Value.slice.injEq] at hBe
        obtain ⟨rfl, _, rfl⟩ := hBe
        by_cases hlt : k < r.bounds.length
        · rcases hbd6 with hbd6 | ⟨bk, off, rfl, hbk1, hbk2, hbk3, hcell⟩
          · rw [hbd6] at hlt; simp at hlt
          have hck := hcell k hlt
          obtain ⟨x, hx⟩ : ∃ x, x = r.bounds.getD k 0 := ⟨_, rfl⟩
          rw [← hx] at hck
          have HXE := Lib.hid hx
          clear hx hcell hbd5
          by_cases hki : k = i.toNat
          · have hne : ((k : Int) != i) = false := by
              have : (k : Int) = i := by omega
              simp [this]
            have HX := Lib.hid (dropN_same (zs := r.numbers) (V := r.vars.toNat) hki)
            have HY := Lib.hid (dropB_same (bs := r.bounds) hki)
            clear hki hD hb hr0
            go_wp2
            go_roundw
            case rel => exact ⟨k + 1, by omega, by go_num, by rw [HX.out, HY.out]; exact HDr.out, HBr.out⟩
            case measure => simp [intOf]; omega
          · have hne : ((k : Int) != i) = true := by
              have : (k : Int) ≠ i := by omega
              simp [this]
            have HX := Lib.hid (dropN_more (zs := r.numbers) (V := r.vars.toNat) hki)
            have HY := Lib.hid (dropB_more (bs := r.bounds) hki)
            clear hki
            obtain ⟨V, hV, hV1, hV8, hb8, hnn⟩ := HNUM.out
            obtain ⟨xs, hxs⟩ : ∃ xs, xs = dropN r.numbers r.vars.toNat i.toNat k := ⟨_, rfl⟩
            obtain ⟨ys, hys⟩ : ∃ ys, ys = dropB r.bounds i.toNat k := ⟨_, rfl⟩
            have hlx : xs.length ≤ 64 := by
              have h1 := dropN_len r.numbers r.vars.toNat i.toNat r.bounds.length (by rw [hV, Int.toNat_natCast]; exact hnn) k hk
              rw [hxs, h1, hV, Int.toNat_natCast]
              exact Nat.le_trans (Nat.mul_le_mul hV8 (show k - (if i.toNat < k then 1 else 0) ≤ 8 by omega)) (by decide)
            have hly : ys.length ≤ 8 := by rw [hys, dropB_len]; omega
            rw [← hxs] at HX
            rw [← hys] at HY
            rw [← hxs, ← hys] at hD
            clear hxs hys HDr
            have hla : ((r.numbers.drop (k * V)).take V).length ≤ 8 := by rw [List.length_take]; omega
            have HX2 : Hid (dropN r.numbers r.vars.toNat i.toNat (k + 1) = xs ++ (r.numbers.drop (k * V)).take V) := by
              have := HX.out
              rw [hV, Int.toNat_natCast] at this
              rw [hV]; exact this
            clear HX
            obtain ⟨row, hrow⟩ : ∃ z, z = (r.numbers.drop (k * V)).take V := ⟨_, rfl⟩
            rw [← hrow] at HX2 hla
            obtain ⟨zs, hzs⟩ : ∃ z, z = xs ++ row := ⟨_, rfl⟩
            rw [← hzs] at HX2
            have HZS := Lib.hid hzs
            obtain ⟨us, hus⟩ : ∃ z, z = ys ++ [x] := ⟨_, rfl⟩
            rw [← HXE.out, ← hus] at HY
            have HUS := Lib.hid hus
            have HRW := Lib.hid (fun wx (hw : Below W1.heap.size W1 wx) => row_any r V k _ wx (HRV.out.below hw (by omega)) (show h ≤ wx.heap.size by have := hw.size; omega) hV hV1 hV8 hlt hb8 hnn)
            rw [← hrow] at HRW
            clear hrow hzs hus hnn hb8 hV1 hV8 hV
            obtain ⟨a, b, g, a1, b1, a2, b2, a3, b3, hq, h1, h2, h3, hrr, hdd, hee⟩ := hD.ex
            clear hD
            have h1 : OwnFL wr a1 b1 a xs := h1
            have h2 : OwnFL wr a2 b2 b ys := h2
            have h3 : OwnFL wr a3 b3 g r.gains := h3
            obtain ⟨pa, ca, rfl⟩ := h1.rd.shape
            obtain ⟨pb, cb, rfl⟩ := h2.rd.shape
            obtain ⟨pg, cg, rfl⟩ := h3.rd.shape
            have hone := oneFlt wr x
            have kAL : Below wr.heap.size wr (wr.alloc (.cells #[.float .f32 x] 23)) := alloc_belowR _ _
            have hqz5 := hq.lt
            have z1 := h1.own.hsz
            have z2 := h2.own.hsz
            have z3 := h3.own.hsz
            have c2w := hq.c2
            have hqA := hq.below kAL hqz5
            have c2a := hqA.c2
            have HQA := Lib.hid hqA
            have H1A := Lib.hid (h1.below kAL z1)
            have H2A := Lib.hid (h2.below kAL z2)
            have H3A := Lib.hid (h3.below kAL z3)
            have HAP := Lib.hid (And.intro hrr (And.intro hdd hee))
            have HONE := Lib.hid hone.rd
            obtain ⟨hra1, hra2, hra3, hraq, hrab, hrac⟩ := hrr
            obtain ⟨_, hee2, _⟩ := hee
            have hee2' : q < a2 ∨ b2 ≤ q := hee2
            have HLB := Lib.hid (show ys.length + [x].length ≤ 1099511627776 by simp; omega)
            have HLC := Lib.hid (show a2 ≤ (wr.alloc (.cells #[.float .f32 x] 23)).heap.size by have := kAL.size; omega)
            have HKA := Lib.hid kAL
            clear hone kAL hq h1 h2 h3 hdd hee2 hqA hr0
            go_wp2_with (at_builtin; refine wpList_appFLs (by rfl) _ _ (by rfl) _ ys (by rfl) H2A.out _ [x] (by rfl) HONE.out HLB.out HLC.out ?_; intro v6 w6 ho6 hsm6 hz6 hbl6; rw [← HUS.out] at ho6; obtain ⟨ya6, yc6, hye⟩ := ho6.rd.shape; subst hye; have hq6 := HQA.out.same hsm6 hee2'; have c6 := hq6.c2; have f6 := hq6.f2)
            have HD5 := DropC.grow2 (r := ⟨r.vars, xs, ys, r.gains⟩) (B := W1.heap.size) HQA.out H1A.out H2A.out H3A.out HAP.out.1 HAP.out.2.1 HAP.out.2.2 ho6 hsm6 hz6 hbl6 (Nat.le_refl _)
            have HB5 := ((HBr.out.trans (HKA.out.mono hsr)).trans (hsm6.below hra2 (Nat.le_trans hsr HKA.out.size))).setCell (p := ⟨q, 2, none⟩) hraq (.slice ya6 us.length yc6)
            obtain ⟨W5, hW5⟩ : ∃ X, X = w6.setCell ⟨q, 2, none⟩ (.slice ya6 us.length yc6) := ⟨_, rfl⟩
            rw [← hW5] at HD5 HB5 ⊢
            clear hW5 HAP HQA H1A H2A H3A ho6 hsm6 hz6 hbl6 c6 f6 c2w c2a HONE HKA HLC HLB hq6 hra1 hra2 hra3 hraq hrab hrac hee2' hqz5 z1 z2 z3 hck k0 k1 k2 k3
            have hs5 := HB5.size
            have hr5 := HR0.out.below HB5 HR0.out.lt
            have k0 := hr5.c0
            have k1 := hr5.c1
            have k2 := hr5.c2
            have k3 := hr5.c3
            obtain ⟨a', b', g', d1, e1, d2, e2, d3, e3, hq, h1, h2, h3, hrr, hdd, hee⟩ := HD5.ex
            clear HD5 hr5
            have h1 : OwnFL W5 d1 e1 a' xs := h1
            have h2 : OwnFL W5 d2 e2 b' us := h2
            have h3 : OwnFL W5 d3 e3 g' r.gains := h3
            obtain ⟨ra, sa, rfl⟩ := h1.rd.shape
            obtain ⟨rb, sb, rfl⟩ := h2.rd.shape
            obtain ⟨rg, sg, rfl⟩ := h3.rd.shape
            have hDw : Drew W5 W5.drew := ⟨1, rfl⟩
            have HQ := Lib.hid hq
            have H1 := Lib.hid h1
            have c1w := hq.c1
            have z1 := h1.own.hsz
            have hqz := hq.lt
            have z2 := h2.own.hsz
            have z3 := h3.own.hsz
            have HAP := Lib.hid (And.intro hrr (And.intro hdd hee))
            have HH := Lib.hid (And.intro h2 h3)
            obtain ⟨hee1, _, _⟩ := hee
            have hee1' : q < d1 ∨ e1 ≤ q := hee1
            obtain ⟨hra1, hra2, hra3, hraq, hrab, hrac⟩ := hrr
            have HLA := Lib.hid (show xs.length + row.length ≤ 1099511627776 by omega)
            have HLO := Lib.hid (show d1 ≤ W5.heap.size by omega)
            have HBD := Lib.hid (HB5.trans (hDw.below _))
            clear h1 h2 h3 hq hdd hee1 hla
            go_wp2_with fail
            go_region_law (first | (go_simp; go_at_call 35; refine (HRW.out _ HBD.out).mono ?_; rintro e w7 ⟨u7, rfl, hf7, hb7⟩; obtain ⟨xa, xc, hxe⟩ := hf7.shape; subst hxe; have hb7' : Below W5.heap.size W5 w7 := (hDw.below _).trans hb7; have hz7 := hb7'.size; have hq7 := HQ.out.below hb7' hqz; have h17 := H1.out.below hb7' z1; have c1b := hq7.c1) | (refine step_appFLs (by rfl) _ _ (by rfl) _ xs (by first | (simp [Act.eval]; done) | (simp [Act.eval, Act.put]; done)) h17 _ row (by first | (simp [Act.eval]; done) | (simp [Act.eval, Act.put]; done)) hf7 HLA.out (by have := HLO.out; omega) ?_; intro v8 w8 ho8 hsm8 hz8 hbl8; rw [← HZS.out] at ho8; obtain ⟨ya8, yc8, hye⟩ := ho8.rd.shape; subst hye; have hq8 := hq7.same hsm8 hee1'; have c8 := hq8.c1; have f8 := hq8.f1))
            all_goals
              have HD9 := DropC.grow1 (r := ⟨r.vars, xs, us, r.gains⟩) (B := W1.heap.size) hq7 h17 (HH.out.1.below hb7' z2) (HH.out.2.below hb7' z3) HAP.out.1 HAP.out.2.1 HAP.out.2.2 ho8 hsm8 hz8 hbl8 (Nat.le_refl _)
              have HB9 := ((HB5.trans (hb7'.mono hs5)).trans (hsm8.below hra1 (by omega))).setCell (p := ⟨q, 1, none⟩) hraq (.slice ya8 zs.length yc8)
              clear HAP HH HQ H1 hq7 h17 ho8 hsm8 hz8 hbl8 c8 f8 c1b c1w hf7
              go_wp2
              go_roundw
              case rel => exact ⟨k + 1, by omega, by go_num, by rw [HX2.out, HY.out]; exact HD9, HB9⟩
              case measure => simp [intOf]; omega
        · obtain rfl : k = r.bounds.length := by omega
          have hro : Below w.heap.size w wr := (HBW1.out.trans (HBr.out.mono (by omega)))
          have hr1 := HR1.out.below hb HR1.out.lt
          obtain ⟨xs, hxs⟩ : ∃ xs, xs = dropN r.numbers r.vars.toNat i.toNat r.bounds.length := ⟨_, rfl⟩
          obtain ⟨ys, hys⟩ : ∃ ys, ys = dropB r.bounds i.toNat r.bounds.length := ⟨_, rfl⟩
          have hE1 := dropped_ok (r := r) (i := i.toNat) HOK.out (by omega)
          have hlx : xs.length ≤ 64 := by
            obtain ⟨V, hV, hV1, hV8, hb8, hnn⟩ := HNUM.out
            have h1 := dropN_len r.numbers r.vars.toNat i.toNat r.bounds.length (by rw [hV, Int.toNat_natCast]; exact hnn) r.bounds.length (Nat.le_refl _)
            rw [hxs, h1, hV, Int.toNat_natCast]
            exact Nat.le_trans (Nat.mul_le_mul hV8 (show r.bounds.length - (if i.toNat < r.bounds.length then 1 else 0) ≤ 8 by omega)) (by decide)
          have hly : ys.length ≤ 8 := by obtain ⟨V, hV, hV1, hV8, hb8, hnn⟩ := HNUM.out; rw [hys, dropB_len]; omega
          have hE2 : dropRow r i = if 2 ≤ r.bounds.length then (⟨r.vars, xs, ys, r.gains⟩, true) else (⟨0, [], [], []⟩, false) := by
            rw [dropRow, HOK.out, HIB.out, hxs, hys]
            by_cases h2 : 2 ≤ r.bounds.length
            · rw [decide_eq_true h2, if_pos h2]; rfl
            · rw [decide_eq_false h2, if_neg h2]; rfl
          rw [← hxs, ← hys] at hD hE1
          clear hxs hys HDr
          obtain ⟨a, b, g, a1, b1, a2, b2, a3, b3, hq, h1, h2, h3, hrr, hdd, hee⟩ := hD.ex
          clear hD
          have h1 : OwnFL wr a1 b1 a xs := h1
          have h2 : OwnFL wr a2 b2 b ys := h2
          have h3 : OwnFL wr a3 b3 g r.gains := h3
          obtain ⟨pa, ca, rfl⟩ := h1.rd.shape
          obtain ⟨pb, cb, rfl⟩ := h2.rd.shape
          obtain ⟨pg, cg, rfl⟩ := h3.rd.shape
          have i0 := hq.c0
          have i1 := hq.c1
          have i2 := hq.c2
          have i3 := hq.c3
          have z1 := h1.own.hsz
          have z2 := h2.own.hsz
          have z3 := h3.own.hsz
          obtain ⟨hra1, hra2, hra3, hraq, hrab, hrac⟩ := hrr
          have hOR : OwnR wr W1.heap.size wr.heap.size (.agg #[.int .i64 r.vars, .slice pa xs.length ca, .slice pb ys.length cb, .slice pg r.gains.length cg]) ⟨r.vars, xs, ys, r.gains⟩ := ⟨⟨_, _, _, a1, b1, a2, b2, a3, b3, rfl, h1, h2, h3, ⟨hra1, z1, hra2, z2, hra3, z3⟩, hdd⟩, hrg, Nat.le_refl _⟩
          have HOR := Lib.hid hOR
          have HCK := Lib.hid (rowsChecked_any _ ⟨r.vars, xs, ys, r.gains⟩ wr hOR.rd (Nat.le_refl _) (by simp only [SmallR]; omega))
          rw [hE1] at HCK
          have HR1b := Lib.hid hr1
          clear h1 h2 h3 hdd hee hOR hr1 z1 z2 z3 hE1
          by_cases hn2 : 2 ≤ r.bounds.length
          · rw [if_pos hn2] at hE2
            have HE := Lib.hid hE2
            rw [decide_eq_true hn2] at HCK
            clear hE2
            go_wp2_with fail
            refine HCK.out.mono ?_
            rintro e w9 ⟨rfl, hb9⟩
            have hr9 := HR1b.out.below hb9 HR1b.out.lt
            have j0 := hr9.c0
            have j1 := hr9.c1
            have j2 := hr9.c2
            have j3 := hr9.c3
            have g0 := hr9.f0
            have g1 := hr9.f1
            have g2 := hr9.f2
            have g3 := hr9.f3
            have HB9 := Lib.hid hb9
            rw [show pickR true (.agg #[.int .i64 r.vars, .slice pa xs.length ca, .slice pb ys.length cb, .slice pg r.gains.length cg]) (.agg #[.int .i64 0, .slice none 0 0, .slice none 0 0, .slice none 0 0]) = .agg #[.int .i64 r.vars, .slice pa xs.length ca, .slice pb ys.length cb, .slice pg r.gains.length cg] from rfl]
            clear hr9 hb9 HCK
            go_wp2_with fail
            have hS := ((((Same.refl (w.heap.size + 1) (w.heap.size + 2) w9).setCell (p := ⟨w.heap.size + 1, 0, none⟩) (by simp) (by simp) (.int .i64 r.vars)).setCell (p := ⟨w.heap.size + 1, 1, none⟩) (by simp) (by simp) (.slice pa xs.length ca)).setCell (p := ⟨w.heap.size + 1, 2, none⟩) (by simp) (by simp) (.slice pb ys.length cb)).setCell (p := ⟨w.heap.size + 1, 3, none⟩) (by simp) (by simp) (.slice pg r.gains.length cg)
            have hor := (HOR.out.below HB9.out (Nat.le_refl _)).same hS (.inr hhW)
            have hw9 := hro.trans (HB9.out.mono (by omega))
            have hBe := hw9.trans (hS.below (Nat.le_succ _) hw9.size)
            have hzz := HB9.out.size
            have hzs := hS.size
            refine bodyPost_ret (v := .tuple #[.agg #[.int .i64 r.vars, .slice pa xs.length ca, .slice pb ys.length cb, .slice pg r.gains.length cg], .bool true]) (by simp [results, Try.results15, go_sem, j0, j1, j2, j3]) rfl ⟨_, by rw [HE.out], by rw [HE.out]; exact hor.mono (by omega) (by omega) (Nat.le_refl _), hBe⟩
          · rw [if_neg hn2] at hE2
            have HE := Lib.hid hE2
            rw [decide_eq_false hn2] at HCK
            clear hE2
            go_wp2_with fail
            refine HCK.out.mono ?_
            rintro e w9 ⟨rfl, hb9⟩
            have hr9 := HR1b.out.below hb9 HR1b.out.lt
            have j0 := hr9.c0
            have j1 := hr9.c1
            have j2 := hr9.c2
            have j3 := hr9.c3
            have g0 := hr9.f0
            have g1 := hr9.f1
            have g2 := hr9.f2
            have g3 := hr9.f3
            have HB9 := Lib.hid hb9
            rw [show pickR false (.agg #[.int .i64 r.vars, .slice pa xs.length ca, .slice pb ys.length cb, .slice pg r.gains.length cg]) (.agg #[.int .i64 0, .slice none 0 0, .slice none 0 0, .slice none 0 0]) = .agg #[.int .i64 0, .slice none 0 0, .slice none 0 0, .slice none 0 0] from rfl]
            clear hr9 hb9 HCK
            go_wp2_with fail
            have hS := ((((Same.refl (w.heap.size + 1) (w.heap.size + 2) w9).setCell (p := ⟨w.heap.size + 1, 0, none⟩) (by simp) (by simp) (.int .i64 0)).setCell (p := ⟨w.heap.size + 1, 1, none⟩) (by simp) (by simp) (.slice none 0 0)).setCell (p := ⟨w.heap.size + 1, 2, none⟩) (by simp) (by simp) (.slice none 0 0)).setCell (p := ⟨w.heap.size + 1, 3, none⟩) (by simp) (by simp) (.slice none 0 0)
            have hw9 := hro.trans (HB9.out.mono (by omega))
            have hBe := hw9.trans (hS.below (Nat.le_succ _) hw9.size)
            refine bodyPost_ret (v := .tuple #[.agg #[.int .i64 0, .slice none 0 0, .slice none 0 0, .slice none 0 0], .bool false]) (by simp [results, Try.results15, go_sem, j0, j1, j2, j3]) rfl ⟨_, by rw [HE.out], by rw [HE.out]; exact noRows _ _ _ hBe.size (Nat.le_refl _), hBe⟩
end Go.Proofs.Ytocngcpdpeflnaa
