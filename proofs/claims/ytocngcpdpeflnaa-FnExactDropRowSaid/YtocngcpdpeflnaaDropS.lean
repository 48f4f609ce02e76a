/-
  spec.DropRow.
-/
import Derived.Test.YtocngcpdpeflnaaDropC
import Derived.Deep.DeepCutAuto
namespace Go.Proofs.Ytocngcpdpeflnaa
open Go.RowKit
set_option linter.unusedVariables false
set_option maxRecDepth 100000

theorem QuadC.drewN' {w : World} {q : Nat} {t : TypeId} {x y z s : Value} (h : QuadC w q t x y z s) (n : Nat) : QuadC (w.drewN n) q t x y z s := h.keep rfl
theorem noRows (w : World) (lo hi : Nat) (hl : lo ≤ hi) (hh : hi ≤ w.heap.size) : OwnR w lo hi (.agg #[.int .i64 0, .slice none 0 0, .slice none 0 0, .slice none 0 0]) ⟨0, [], [], []⟩ :=
  ⟨⟨_, _, _, lo, lo, lo, lo, lo, lo, rfl, OwnFL.nil w lo lo (by omega), OwnFL.nil w lo lo (by omega), OwnFL.nil w lo lo (by omega), ⟨Nat.le_refl _, hl, Nat.le_refl _, hl, Nat.le_refl _, hl⟩, .inl (Nat.le_refl _), .inl (Nat.le_refl _), .inl (Nat.le_refl _)⟩, ⟨by decide, by decide⟩, hh⟩
theorem oneFlt (w : World) (x : Nat) : OwnFL (w.alloc (.cells #[.float .f32 x] 23)) w.heap.size (w.heap.size + 1) (.slice (some ⟨w.heap.size, 0, none⟩) 1 1) [x] :=
  ⟨⟨World.ownsRow_lit w #[.float .f32 x] 1 (Nat.le_refl _) (by simp [maxLen]) (by simp), fun k e => by simp [Value.ownBlock] at e; omega, by simp⟩, by simp⟩
theorem dropN_same {zs : List Nat} {V i k : Nat} (h : k = i) : dropN zs V i (k + 1) = dropN zs V i k := by rw [dropN, if_pos h, List.append_nil]
theorem dropN_more {zs : List Nat} {V i k : Nat} (h : k ≠ i) : dropN zs V i (k + 1) = dropN zs V i k ++ (zs.drop (k * V)).take V := by rw [dropN, if_neg h]
theorem dropB_same {bs : List Nat} {i k : Nat} (h : k = i) : dropB bs i (k + 1) = dropB bs i k := by rw [dropB, if_pos h, List.append_nil]
theorem dropB_more {bs : List Nat} {i k : Nat} (h : k ≠ i) : dropB bs i (k + 1) = dropB bs i k ++ [bs.getD k 0] := by rw [dropB, if_neg h]
/-- the outcome, behind the stores to another block -/
theorem DropC.own {w w' : World} {B q s lo : Nat} {r : RowsD} (h : DropC w B q r) (hr : I64 r.vars) (hs : Same s (s + 1) w w') (hsB : s + 1 ≤ B) (hlo : lo ≤ B) :
    ∃ a b g, QuadC w q 33 (.int .i64 r.vars) a b g ∧ OwnR w' lo w'.heap.size (.agg #[.int .i64 r.vars, a, b, g]) r := by
  obtain ⟨a, b, g, a1, b1, a2, b2, a3, b3, hq, h1, h2, h3, hrr, hd, he⟩ := h.ex
  have z1 := h1.own.hsz
  have z2 := h2.own.hsz
  have z3 := h3.own.hsz
  have z := hs.size
  exact ⟨a, b, g, hq, ⟨a, b, g, a1, b1, a2, b2, a3, b3, rfl, h1.same hs (by omega), h2.same hs (by omega), h3.same hs (by omega), by omega, hd⟩, hr, Nat.le_refl _⟩
set_option maxHeartbeats 4000000 in
set_option maxRecDepth 100000 in
theorem specDropRow_any (w : World) {l h : Nat} (v : Value) (r : RowsD) (i : Int) (hv : RowsR w l h v r) (hh : h ≤ w.heap.size) (hz : SmallR r) (ki : I64 i) :
    Calls Try.prog 13 #[v, .int .i64 i] w fun e w' => ∃ u, e = .returned (.tuple #[u, .bool (dropRow r i).2]) ∧ OwnR w' w.heap.size w'.heap.size u (dropRow r i).1 ∧ Below w.heap.size w w' := by
  unfold SmallR at hz
  obtain ⟨a, b, c, rfl, ha0, hb0, hc0⟩ := hv.ex
  have hrg := hv.rng
  clear hv
  obtain ⟨p1, c1, rfl⟩ := ha0.shape
  obtain ⟨p2, c2, rfl⟩ := hb0.shape
  obtain ⟨p3, c3, rfl⟩ := hc0.shape
  obtain ⟨W, hW⟩ : ∃ W, W = (w.alloc (.cells #[.int .i64 r.vars, .slice p1 r.numbers.length c1, .slice p2 r.bounds.length c2, .slice p3 r.gains.length c3] 33)).alloc (.cells #[.int .i64 0, .slice none 0 0, .slice none 0 0, .slice none 0 0] 33) := ⟨_, rfl⟩
  have hBW : Below w.heap.size w W := by rw [hW]; exact ((Below.refl _ _).alloc (Nat.le_refl _) _).alloc (by simp) _
  have hsW : W.heap.size = w.heap.size + 2 := by rw [hW]; simp
  have q0 : QuadC W w.heap.size 33 (.int .i64 r.vars) (.slice p1 r.numbers.length c1) (.slice p2 r.bounds.length c2) (.slice p3 r.gains.length c3) := by rw [hW]; exact (QuadC.new _ _ _ _ _ _).alloc _
  have q1 : QuadC W (w.heap.size + 1) 33 (.int .i64 0) (.slice none 0 0) (.slice none 0 0) (.slice none 0 0) := by
    rw [hW]
    have := QuadC.new (w.alloc (.cells #[.int .i64 r.vars, .slice p1 r.numbers.length c1, .slice p2 r.bounds.length c2, .slice p3 r.gains.length c3] 33)) 33 (.int .i64 0) (.slice none 0 0) (.slice none 0 0) (.slice none 0 0)
    rwa [World.size_alloc] at this
  have ha := ha0.below hBW hh
  have hb := hb0.below hBW hh
  have hc := hc0.below hBW hh
  have HI := Lib.hid (l02Is_any r _ _ _ W q0 ha hb hc)
  have HIN := Lib.hid (fun n => l00In_any i 0 ((r.bounds.length : Int) - 1) (W.drewN n))
  clear ha0 hb0 hc0
  have wn : IntKind.i64.wrap ((r.bounds.length : Int) - 1) = (r.bounds.length : Int) - 1 := IntWalk.i64_in _ (by omega)
  cases ho : (okRows r && decide (2 ≤ r.bounds.length) && inB 0 ((r.bounds.length : Int) - 1) i)
  · have HE := Lib.hid (show dropRow r i = (⟨0, [], [], []⟩, false) by rw [dropRow, ho]; rfl)
    have q1d := fun n => q1.drewN' n
    have hfin : ∀ n, Below w.heap.size w (W.drewN n) := fun n => hBW.trans ((Drew.one W n).below _)
    have hend : ∀ n, Below w.heap.size w (((((W.drewN n).setCell ⟨w.heap.size + 1, 0, none⟩ (.int .i64 0)).setCell ⟨w.heap.size + 1, 1, none⟩ (.slice none 0 0)).setCell ⟨w.heap.size + 1, 2, none⟩ (.slice none 0 0)).setCell ⟨w.heap.size + 1, 3, none⟩ (.slice none 0 0)) := fun n => ((((hfin n).setCell (by simp) _).setCell (by simp) _).setCell (by simp) _).setCell (by simp) _
    have HEND := Lib.hid hend
    clear hend hfin
    have hs3 : (okRows r = false) ∨ (okRows r = true ∧ decide ((r.bounds.length : Int) < 2) = true) ∨ (okRows r = true ∧ decide ((r.bounds.length : Int) < 2) = false ∧ inB 0 ((r.bounds.length : Int) - 1) i = false) := by
      rw [Bool.and_eq_false_iff, Bool.and_eq_false_iff] at ho
      cases h1 : okRows r
      · exact .inl rfl
      · rw [h1] at ho
        by_cases h2 : 2 ≤ r.bounds.length
        · have h3 : inB 0 ((r.bounds.length : Int) - 1) i = false := by
            rcases ho with (ho | ho) | ho
            · cases ho
            · exact absurd h2 (of_decide_eq_false ho)
            · exact ho
          exact .inr (.inr ⟨rfl, decide_eq_false (by omega), h3⟩)
        · exact .inr (.inl ⟨rfl, decide_eq_true (by omega)⟩)
    clear ho
    rcases hs3 with h1 | ⟨h1, g2⟩ | ⟨h1, g2, h3⟩
    all_goals rw [h1] at HI
    all_goals try rw [h3] at HIN
    all_goals clear h1
    all_goals try clear h3
    all_goals
      go_enter Try.func13, Try.ntmps13
      go_wp2_with fail
      rw [← hW]
      clear hW
      refine HI.out.mono ?_
      rintro e w2 ⟨rfl, m, rfl⟩
      have r1 := q1d m
      have j0 := r1.c0
      have j1 := r1.c1
      have j2 := r1.c2
      have j3 := r1.c3
      have f0 := r1.f0
      have f1 := r1.f1
      have f2 := r1.f2
      have f3 := r1.f3
      clear q1d q0 q1 r1
      go_wp2_with (go_at_call 30; refine (HIN.out _).mono ?_; rintro e w2 ⟨rfl, rfl⟩)
      refine bodyPost_ret (v := .tuple #[.agg #[.int .i64 0, .slice none 0 0, .slice none 0 0, .slice none 0 0], .bool false]) (by simp [results, Try.results13, go_sem, j0, j1, j2, j3]) rfl ⟨_, by rw [HE.out], by rw [HE.out]; exact noRows _ _ _ (HEND.out _).size (Nat.le_refl _), HEND.out _⟩
  · rw [Bool.and_eq_true, Bool.and_eq_true, decide_eq_true_eq] at ho
    obtain ⟨⟨ho1, ho2⟩, ho3⟩ := ho
    have HE := Lib.hid (show dropRow r i = (⟨r.vars, dropN r.numbers r.vars.toNat i.toNat r.bounds.length, dropB r.bounds i.toNat r.bounds.length, r.gains⟩, true) by rw [dropRow, ho1, decide_eq_true ho2, ho3]; rfl)
    obtain ⟨o1, o2, _, o4, _⟩ := okRows_out ho1
    have HNUM : Hid (∃ V : Nat, r.vars = (V : Int) ∧ 1 ≤ V ∧ V ≤ 8 ∧ r.bounds.length ≤ 8 ∧ r.numbers.length = V * r.bounds.length) := by
      have u1 := inB_true o1
      have u2 := inB_true o2
      obtain ⟨V, hV⟩ : ∃ V : Nat, r.vars = (V : Int) := ⟨r.vars.toNat, by omega⟩
      refine ⟨V, hV, by omega, by omega, by omega, ?_⟩
      have : ((V * r.bounds.length : Nat) : Int) = (V : Int) * (r.bounds.length : Int) := by simp
      rw [hV] at o4
      omega
    clear o1 o2 o4
    rw [ho1] at HI
    rw [ho3] at HIN
    have v3 := inB_true ho3
    have g2 : decide ((r.bounds.length : Int) < 2) = false := decide_eq_false (by omega)
    clear ho1 ho3
    go_enter Try.func13, Try.ntmps13
    go_wp2_with fail
    rw [← hW]
    clear hW
    refine HI.out.mono ?_
    rintro e w2 ⟨rfl, m, rfl⟩
    go_wp2_with (go_at_call 30; refine (HIN.out _).mono ?_; rintro e w2 ⟨rfl, rfl⟩)
    obtain ⟨W1, hW1⟩ : ∃ X, X = W.drewN m := ⟨_, rfl⟩
    have r0 := q0.drewN' m
    have r1 := q1.drewN' m
    have hc1 := hc.drewN m
    have ha1 := ha.drewN m
    have hb1 := hb.drewN m
    have s1 : W1.heap.size = W.heap.size := by rw [hW1]; rfl
    have hWW1 : Below w.heap.size W W1 := by rw [hW1]; exact (Drew.one W m).below _
    rw [← hW1] at r0 r1 hc1 ha1 hb1 ⊢
    clear hW1
    have hdD : Drew W1 W1.drew := ⟨1, rfl⟩
    have hK : Hid (∀ w' : World, Below W1.heap.size W1 w' → w'.cell? ⟨w.heap.size, 0, none⟩ = some (.int .i64 r.vars) ∧ w'.cell? ⟨w.heap.size, 3, none⟩ = some (.slice p3 r.gains.length c3)) := fun w' hb => ⟨(r0.below hb r0.lt).c0, (r0.below hb r0.lt).c3⟩
    have hgl : r.gains.length ≤ 1048576 := by omega
    have hhW : h ≤ W1.heap.size := by omega
    have kD := hdD.below W1.heap.size
    -- the three orders of the two makes and the append
    have eA := emptySliceFL W1.drew
    have kA : Below W1.heap.size W1 (W1.drew.alloc (.cells #[] 23)) := kD.alloc (Nat.le_refl _) _
    have fA := hc1.below kA hhW
    have eC := eA.alloc (.cells #[.int .i64 0, .slice none 0 0, .slice none 0 0, .slice none 0 0] 33)
    have kC : Below W1.heap.size W1 ((W1.drew.alloc (.cells #[] 23)).alloc (.cells #[.int .i64 0, .slice none 0 0, .slice none 0 0, .slice none 0 0] 33)) := kA.alloc kA.size _
    have fC := hc1.below kC hhW
    have qC : QuadC ((W1.drew.alloc (.cells #[] 23)).alloc (.cells #[.int .i64 0, .slice none 0 0, .slice none 0 0, .slice none 0 0] 33)) (W1.heap.size + 1) 33 (.int .i64 0) (.slice none 0 0) (.slice none 0 0) (.slice none 0 0) := by
      have := QuadC.new (W1.drew.alloc (.cells #[] 23)) 33 (.int .i64 0) (.slice none 0 0) (.slice none 0 0) (.slice none 0 0)
      rw [World.size_alloc] at this; exact this
    have kZ : Below W1.heap.size W1 (W1.drew.alloc (.cells #[.int .i64 0, .slice none 0 0, .slice none 0 0, .slice none 0 0] 33)) := kD.alloc (Nat.le_refl _) _
    have eB := emptySliceFL (W1.drew.alloc (.cells #[.int .i64 0, .slice none 0 0, .slice none 0 0, .slice none 0 0] 33))
    have kB : Below W1.heap.size W1 ((W1.drew.alloc (.cells #[.int .i64 0, .slice none 0 0, .slice none 0 0, .slice none 0 0] 33)).alloc (.cells #[] 23)) := kZ.alloc kZ.size _
    have fB := hc1.below kB hhW
    have qB : QuadC ((W1.drew.alloc (.cells #[.int .i64 0, .slice none 0 0, .slice none 0 0, .slice none 0 0] 33)).alloc (.cells #[] 23)) W1.heap.size 33 (.int .i64 0) (.slice none 0 0) (.slice none 0 0) (.slice none 0 0) := (QuadC.new W1.drew 33 (.int .i64 0) (.slice none 0 0) (.slice none 0 0) (.slice none 0 0)).alloc (.cells #[] 23)
    have HA := Lib.hid (And.intro eA (And.intro kA fA))
    have HB := Lib.hid (And.intro eB (And.intro kB (And.intro fB qB)))
    have HC := Lib.hid (And.intro eC (And.intro kC (And.intro fC qC)))
    have HZ := Lib.hid kZ
    have HA1 := Lib.hid ha1
    have HB1 := Lib.hid hb1
    have HR0 := Lib.hid r0
    have HR1 := Lib.hid r1
    clear ha1 hb1
    have HS1 := Lib.hid s1
    have HSW := Lib.hid hsW
    have HBW1 := Lib.hid (hBW.trans hWW1)
    clear s1 hsW
    clear eA kA fA eC kC fC qC kZ eB kB fB qB
    go_region_held3 (fun w' => w'.cell? ⟨w.heap.size, 0, none⟩ = some (.int .i64 r.vars) ∧ w'.cell? ⟨w.heap.size, 3, none⟩ = some (.slice p3 r.gains.length c3)) (first | exact hK.out _ kD | exact hK.out _ HA.out.2.1 | exact hK.out _ HB.out.2.1 | exact hK.out _ HC.out.2.1 | exact hK.out _ HZ.out | exact hK.out _ jb | exact hK.out _ (jb.alloc jz _) | exact hK.out _ ((((jb.setCell (by simp) _).setCell (by simp) _).setCell (by simp) _).setCell (by simp) _)) (first | ((refine step_appFLs (by rfl) _ _ (by rfl) _ [] (by first | (simp [Act.eval]; done) | (simp [Act.eval, Act.put]; done)) HA.out.1 _ r.gains (by first | (simp [Act.eval]; done) | (simp [Act.eval, Act.put]; done)) HA.out.2.2 (by simp; omega) (by first | (simp; done) | (simp; omega)) ?_; intro v5 w5 ho5 hsm5 hz5 hbl5; rw [List.nil_append] at ho5; obtain ⟨ya, yc, rfl⟩ := ho5.rd.shape; have jb := HA.out.2.1.trans (hsm5.below (B := W1.heap.size) (by first | (simp; done) | (simp; omega)) (by first | (simp; done) | (simp; omega))); have jz := jb.size)) | ((refine step_appFLs (by rfl) _ _ (by rfl) _ [] (by first | (simp [Act.eval]; done) | (simp [Act.eval, Act.put]; done)) HB.out.1 _ r.gains (by first | (simp [Act.eval]; done) | (simp [Act.eval, Act.put]; done)) HB.out.2.2.1 (by simp; omega) (by first | (simp; done) | (simp; omega)) ?_; intro v5 w5 ho5 hsm5 hz5 hbl5; rw [List.nil_append] at ho5; obtain ⟨ya, yc, rfl⟩ := ho5.rd.shape; have jb := HB.out.2.1.trans (hsm5.below (B := W1.heap.size) (by first | (simp; done) | (simp; omega)) (by first | (simp; done) | (simp; omega))); have jz := jb.size; have qz := HB.out.2.2.2.same hsm5 (by first | (simp; done) | (simp; omega)); have y0 := qz.c0; have y1 := qz.c1; have y2 := qz.c2; have y3 := qz.c3; have t0 := qz.f0; have t1 := qz.f1; have t2 := qz.f2; have t3 := qz.f3)) | ((refine step_appFLs (by rfl) _ _ (by rfl) _ [] (by first | (simp [Act.eval]; done) | (simp [Act.eval, Act.put]; done)) HC.out.1 _ r.gains (by first | (simp [Act.eval]; done) | (simp [Act.eval, Act.put]; done)) HC.out.2.2.1 (by simp; omega) (by first | (simp; done) | (simp; omega)) ?_; intro v5 w5 ho5 hsm5 hz5 hbl5; rw [List.nil_append] at ho5; obtain ⟨ya, yc, rfl⟩ := ho5.rd.shape; have jb := HC.out.2.1.trans (hsm5.below (B := W1.heap.size) (by first | (simp; done) | (simp; omega)) (by first | (simp; done) | (simp; omega))); have jz := jb.size; have qz := HC.out.2.2.2.same hsm5 (by first | (simp; done) | (simp; omega)); have y0 := qz.c0; have y1 := qz.c1; have y2 := qz.c2; have y3 := qz.c3; have t0 := qz.f0; have t1 := qz.f1; have t2 := qz.f2; have t3 := qz.f3)))
    have s1 := HS1.out
    have sW := HSW.out
    have hq2 := QuadC.new w5 33 (.int .i64 r.vars) (.slice none 0 0) (.slice none 0 0) (.slice ya r.gains.length yc)
    have ho6 := ho5.alloc (.cells #[.int .i64 r.vars, .slice none 0 0, .slice none 0 0, .slice ya r.gains.length yc] 33)
    have hd2 : DropC (w5.alloc (.cells #[.int .i64 r.vars, .slice none 0 0, .slice none 0 0, .slice ya r.gains.length yc] 33)) W1.heap.size w5.heap.size ⟨r.vars, [], [], r.gains⟩ := DropC.start hq2 ho6 (Nat.le_refl _) jz (.inr (Nat.le_refl _)) (by simp; omega)
    have jb2 := jb.alloc jz (.cells #[.int .i64 r.vars, .slice none 0 0, .slice none 0 0, .slice ya r.gains.length yc] 33)
    obtain ⟨W2, hW2⟩ : ∃ X, X = w5.alloc (.cells #[.int .i64 r.vars, .slice none 0 0, .slice none 0 0, .slice ya r.gains.length yc] 33) := ⟨_, rfl⟩
    obtain ⟨q, hqe⟩ : ∃ q, q = w5.heap.size := ⟨_, rfl⟩
    have hqge : W1.heap.size ≤ q := by omega
    rw [← hW2, ← hqe] at hd2
    rw [← hW2] at jb2
    rw [← hW2, ← hqe]
    clear hW2 hqe
    rotate_left
    have s1 := HS1.out
    have sW := HSW.out
    obtain ⟨c4, d4, ho6, hcd⟩ := grow_tight HC.out.1 ho5 hz5 hbl5
    have hcd' : (c4 = W1.heap.size ∧ d4 = W1.heap.size + 1) ∨ (c4 = W1.heap.size + 2 ∧ d4 = W1.heap.size + 3) := by
      rcases hcd with ⟨e1, e2⟩ | ⟨e1, e2⟩
      · exact .inl ⟨e1.trans (by simp), e2.trans (by simp)⟩
      · exact .inr ⟨e1.trans (by simp), e2.trans (by simp)⟩
    have hq3 := (((qz.set0 (.int .i64 r.vars)).set1 (.slice none 0 0)).set2 (.slice none 0 0)).set3 (.slice ya r.gains.length yc)
    have hS4 := ((((Same.refl (W1.heap.size + 1) (W1.heap.size + 1 + 1) w5).setCell (p := ⟨W1.heap.size + 1, 0, none⟩) (Nat.le_refl _) (Nat.lt_succ_self _) (.int .i64 r.vars)).setCell (p := ⟨W1.heap.size + 1, 1, none⟩) (Nat.le_refl _) (Nat.lt_succ_self _) (.slice none 0 0)).setCell (p := ⟨W1.heap.size + 1, 2, none⟩) (Nat.le_refl _) (Nat.lt_succ_self _) (.slice none 0 0)).setCell (p := ⟨W1.heap.size + 1, 3, none⟩) (Nat.le_refl _) (Nat.lt_succ_self _) (.slice ya r.gains.length yc)
    have ho7 := ho6.same hS4 (by omega)
    have hz7 := hS4.size
    have hd3 : DropC ((((w5.setCell ⟨W1.heap.size + 1, 0, none⟩ (.int .i64 r.vars)).setCell ⟨W1.heap.size + 1, 1, none⟩ (.slice none 0 0)).setCell ⟨W1.heap.size + 1, 2, none⟩ (.slice none 0 0)).setCell ⟨W1.heap.size + 1, 3, none⟩ (.slice ya r.gains.length yc)) W1.heap.size (W1.heap.size + 1) ⟨r.vars, [], [], r.gains⟩ := DropC.start hq3 ho7 (by omega) (by omega) (by unfold Apt; omega) (by omega)
    have jb2 := jb.trans (hS4.below (B := W1.heap.size) (by omega) (by omega))
    obtain ⟨W2, hW2⟩ : ∃ X, X = (((w5.setCell ⟨W1.heap.size + 1, 0, none⟩ (.int .i64 r.vars)).setCell ⟨W1.heap.size + 1, 1, none⟩ (.slice none 0 0)).setCell ⟨W1.heap.size + 1, 2, none⟩ (.slice none 0 0)).setCell ⟨W1.heap.size + 1, 3, none⟩ (.slice ya r.gains.length yc) := ⟨_, rfl⟩
    obtain ⟨q, hqe⟩ : ∃ q, q = W1.heap.size + 1 := ⟨_, rfl⟩
    have hqge : W1.heap.size ≤ q := by omega
    rw [← hW2] at jb2 hd3
    have hd2 : DropC W2 W1.heap.size q ⟨r.vars, [], [], r.gains⟩ := by rw [hqe]; exact hd3
    rw [← hW2, ← hqe]
    clear hW2 hqe hd3 ho7 hS4 hq3 ho6 hcd hcd' hz7 qz y0 y1 y2 y3 t0 t1 t2 t3
    rotate_left
    have s1 := HS1.out
    have sW := HSW.out
    obtain ⟨c4, d4, ho6, hcd⟩ := grow_tight HB.out.1 ho5 hz5 hbl5
    have hcd' : (c4 = W1.heap.size + 1 ∧ d4 = W1.heap.size + 2) ∨ (c4 = W1.heap.size + 2 ∧ d4 = W1.heap.size + 3) := by
      rcases hcd with ⟨e1, e2⟩ | ⟨e1, e2⟩
      · exact .inl ⟨e1.trans (by simp), e2.trans (by simp)⟩
      · exact .inr ⟨e1.trans (by simp), e2.trans (by simp)⟩
    have hq3 := (((qz.set0 (.int .i64 r.vars)).set1 (.slice none 0 0)).set2 (.slice none 0 0)).set3 (.slice ya r.gains.length yc)
    have hS4 := ((((Same.refl (W1.heap.size) (W1.heap.size + 1) w5).setCell (p := ⟨W1.heap.size, 0, none⟩) (Nat.le_refl _) (Nat.lt_succ_self _) (.int .i64 r.vars)).setCell (p := ⟨W1.heap.size, 1, none⟩) (Nat.le_refl _) (Nat.lt_succ_self _) (.slice none 0 0)).setCell (p := ⟨W1.heap.size, 2, none⟩) (Nat.le_refl _) (Nat.lt_succ_self _) (.slice none 0 0)).setCell (p := ⟨W1.heap.size, 3, none⟩) (Nat.le_refl _) (Nat.lt_succ_self _) (.slice ya r.gains.length yc)
    have ho7 := ho6.same hS4 (by omega)
    have hz7 := hS4.size
    have hd3 : DropC ((((w5.setCell ⟨W1.heap.size, 0, none⟩ (.int .i64 r.vars)).setCell ⟨W1.heap.size, 1, none⟩ (.slice none 0 0)).setCell ⟨W1.heap.size, 2, none⟩ (.slice none 0 0)).setCell ⟨W1.heap.size, 3, none⟩ (.slice ya r.gains.length yc)) W1.heap.size (W1.heap.size) ⟨r.vars, [], [], r.gains⟩ := DropC.start hq3 ho7 (by omega) (by omega) (by unfold Apt; omega) (by omega)
    have jb2 := jb.trans (hS4.below (B := W1.heap.size) (by omega) (by omega))
    obtain ⟨W2, hW2⟩ : ∃ X, X = (((w5.setCell ⟨W1.heap.size, 0, none⟩ (.int .i64 r.vars)).setCell ⟨W1.heap.size, 1, none⟩ (.slice none 0 0)).setCell ⟨W1.heap.size, 2, none⟩ (.slice none 0 0)).setCell ⟨W1.heap.size, 3, none⟩ (.slice ya r.gains.length yc) := ⟨_, rfl⟩
    obtain ⟨q, hqe⟩ : ∃ q, q = W1.heap.size := ⟨_, rfl⟩
    have hqge : W1.heap.size ≤ q := by omega
    rw [← hW2] at jb2 hd3
    have hd2 : DropC W2 W1.heap.size q ⟨r.vars, [], [], r.gains⟩ := by rw [hqe]; exact hd3
    rw [← hW2, ← hqe]
    clear hW2 hqe hd3 ho7 hS4 hq3 ho6 hcd hcd' hz7 qz y0 y1 y2 y3 t0 t1 t2 t3
    rotate_left
    all_goals
      have HD2 := Lib.hid hd2
      have HJ2 := Lib.hid jb2
      have HS1W := Lib.hid (show W1.heap.size = w.heap.size + 2 by omega)
      clear hd2 jb2 s1 sW ho5 hsm5 hz5 hbl5 jb jz HA HB HC HZ hdD hK kD
      go_wp2_with fail
      go_loopw [8] (fun kk wr => ∃ k : Nat, k ≤ r.bounds.length ∧ kk = .int .i64 k ∧ DropC wr W1.heap.size q ⟨r.vars, dropN r.numbers r.vars.toNat i.toNat k, dropB r.bounds i.toNat k, r.gains⟩ ∧ Below W1.heap.size W1 wr) (fun kk _ => r.bounds.length - (intOf kk).toNat)
      case atStart => exact ⟨0, Nat.zero_le _, rfl, HD2.out, HJ2.out⟩
      case round =>
        obtain ⟨k, hk, rfl, hD, hb⟩ := hrel
        have hsr := hb.size
        have HDr := Lib.hid hD
        have HBr := Lib.hid hb
        have e1W : w.heap.size + 2 ≤ W1.heap.size := by have := HS1W.out; omega
        have hr0 := HR0.out.below hb HR0.out.lt
        have k0 := hr0.c0
        have k2 := hr0.c2
        by_cases hlt : k < r.bounds.length
        · by_cases hki : k = i.toNat
          · have hne : ((k : Int) != i) = false := by
              have : (k : Int) = i := by omega
              simp [this]
            have HX := Lib.hid (dropN_same (zs := r.numbers) (V := r.vars.toNat) hki)
            have HY := Lib.hid (dropB_same (bs := r.bounds) hki)
            clear hki hD hb hr0
            go_wp2
            go_roundw
            case rel => exact ⟨k + 1, by omega, by go_num, by rw [HX.out, HY.out]; exact HDr.out, HBr.out⟩
            case measure => simp [intOf]; omega
          · have hne : ((k : Int) != i) = true := by
              have : (k : Int) ≠ i := by omega
              simp [this]
            have HX := Lib.hid (dropN_more (zs := r.numbers) (V := r.vars.toNat) hki)
            have HY := Lib.hid (dropB_more (bs := r.bounds) hki)
            clear hki
            obtain ⟨V, hV, hV1, hV8, hb8, hnn⟩ := HNUM.out
            obtain ⟨xs, hxs⟩ : ∃ xs, xs = dropN r.numbers r.vars.toNat i.toNat k := ⟨_, rfl⟩
            obtain ⟨ys, hys⟩ : ∃ ys, ys = dropB r.bounds i.toNat k := ⟨_, rfl⟩
            have hlx : xs.length ≤ 64 := by
              have h1 := dropN_len r.numbers r.vars.toNat i.toNat r.bounds.length (by rw [hV, Int.toNat_natCast]; exact hnn) k hk
              rw [hxs, h1, hV, Int.toNat_natCast]
              exact Nat.le_trans (Nat.mul_le_mul hV8 (show k - (if i.toNat < k then 1 else 0) ≤ 8 by omega)) (by decide)
            have hly : ys.length ≤ 8 := by rw [hys, dropB_len]; omega
            rw [← hxs] at HX
            rw [← hys] at HY
            rw [← hxs, ← hys] at hD
            clear hxs hys HDr
            have hla : ((r.numbers.drop (k * V)).take V).length ≤ 8 := by rw [List.length_take]; omega
            have HX2 : Hid (dropN r.numbers r.vars.toNat i.toNat (k + 1) = xs ++ (r.numbers.drop (k * V)).take V) := by
              have := HX.out
              rw [hV, Int.toNat_natCast] at this
              rw [hV]; exact this
            clear HX
            obtain ⟨row, hrow⟩ : ∃ z, z = (r.numbers.drop (k * V)).take V := ⟨_, rfl⟩
            rw [← hrow] at HX2 hla
            obtain ⟨zs, hzs⟩ : ∃ z, z = xs ++ row := ⟨_, rfl⟩
            rw [← hzs] at HX2
            have HZS := Lib.hid hzs
            obtain ⟨x, hx⟩ : ∃ x, x = r.bounds.getD k 0 := ⟨_, rfl⟩
            obtain ⟨us, hus⟩ : ∃ z, z = ys ++ [x] := ⟨_, rfl⟩
            rw [← hx, ← hus] at HY
            have HXE := Lib.hid hx
            clear hx
            have HUS := Lib.hid hus
            have HRW := Lib.hid (fun wx (hw : Drew wr wx) => l02Row_any r V k _ _ _ wx (hr0.drew hw) ((HA1.out.below hb (by omega)).drew hw) hV hV1 hV8 hlt hb8 hnn)
            rw [← hrow] at HRW
            have hbd := HB1.out.below hb (by omega)
            clear hrow hzs hus
            clear hnn hb8 hV1 hV8 hV
            obtain ⟨a, b, g, a1, b1, a2, b2, a3, b3, hq, h1, h2, h3, hrr, hdd, hee⟩ := hD.ex
            clear hD
            have h1 : OwnFL wr a1 b1 a xs := h1
            have h2 : OwnFL wr a2 b2 b ys := h2
            have h3 : OwnFL wr a3 b3 g r.gains := h3
            obtain ⟨pa, ca, rfl⟩ := h1.rd.shape
            obtain ⟨pb, cb, rfl⟩ := h2.rd.shape
            obtain ⟨pg, cg, rfl⟩ := h3.rd.shape
            have hDw : Drew wr wr.drew := ⟨1, rfl⟩
            have HQ := Lib.hid hq
            have H1 := Lib.hid h1
            have c1w := hq.c1
            have z1 := h1.own.hsz
            have hqz := hq.lt
            have z2 := h2.own.hsz
            have HAP := Lib.hid (And.intro hrr (And.intro hdd hee))
            have HH := Lib.hid (And.intro h2 h3)
            obtain ⟨hee1, _, _⟩ := hee
            have hee1' : q < a1 ∨ b1 ≤ q := hee1
            obtain ⟨hra1, hra2, hra3, hraq, hrab, hrac⟩ := hrr
            clear h1 h2 h3 hq hdd hee1
            have HLA := Lib.hid (show xs.length + row.length ≤ 1099511627776 by omega)
            have HLO := Lib.hid (show a1 ≤ wr.heap.size by omega)
            clear hla
            go_wp2_with fail
            go_region_law (first | (go_simp; go_at_call 31; refine (HRW.out _ hDw).mono ?_; rintro e w3 ⟨u3, rfl, hf3, hd3⟩; have hd3' := hDw.trans hd3; have hf3' := hf3.drew hd3; obtain ⟨xa, xc, hxe⟩ := hf3'.shape; subst hxe; have hq3 := HQ.out.drew hd3'; have h13 := H1.out.drew hd3'; have c1b := hq3.c1; have hz3 : w3.heap.size = wr.heap.size := by rw [hd3'.heap]) | (refine step_appFLs (by rfl) _ _ (by rfl) _ xs (by first | (simp [Act.eval]; done) | (simp [Act.eval, Act.put]; done)) h13 _ row (by first | (simp [Act.eval]; done) | (simp [Act.eval, Act.put]; done)) hf3' HLA.out (by rw [hz3]; exact HLO.out) ?_; intro v4 w4 ho4 hsm4 hz4 hbl4; rw [← HZS.out] at ho4; obtain ⟨ya4, yc4, hye⟩ := ho4.rd.shape; subst hye; have hq4 := hq3.same hsm4 hee1'; have c4 := hq4.c1; have f4 := hq4.f1))
            all_goals
              have HD5 := DropC.grow1 (r := ⟨r.vars, xs, ys, r.gains⟩) (B := W1.heap.size) hq3 h13 (HH.out.1.drew hd3') (HH.out.2.drew hd3') HAP.out.1 HAP.out.2.1 HAP.out.2.2 ho4 hsm4 hz4 hbl4 (Nat.le_refl _)
              have HB4 : Below W1.heap.size W1 w4 := (HBr.out.trans (hd3'.below _)).trans (hsm4.below hra1 (by omega))
              have HB5 := HB4.setCell (p := ⟨q, 1, none⟩) hraq (.slice ya4 zs.length yc4)
              clear HAP HH HQ H1 hq3 h13 ho4 hsm4 hz4 hbl4 HB4 c4 f4 c1b c1w hf3' hf3
              obtain ⟨W5, hW5⟩ : ∃ X, X = w4.setCell ⟨q, 1, none⟩ (.slice ya4 zs.length yc4) := ⟨_, rfl⟩
              rw [← hW5] at HD5 HB5 ⊢
              clear hW5
              have hs5 := HB5.size
              have hr5 := HR0.out.below HB5 HR0.out.lt
              have k20 := hr5.c2
              have hbd5 := HB1.out.below HB5 (by omega)
              obtain ⟨pB, cB, hBe, hcB, _, hbd6⟩ := hbd5.out
              simp only [Value.slice.injEq] at hBe
              obtain ⟨rfl, _, rfl⟩ := hBe
              rcases hbd6 with hbd6 | ⟨bk, off, rfl, hbk1, hbk2, hbk3, hcell⟩
              · rw [hbd6] at hlt; simp at hlt
              have hck := hcell k hlt
              rw [← HXE.out] at hck
              obtain ⟨a, b, g, a1, b1, a2, b2, a3, b3, hq, h1, h2, h3, hrr, hdd, hee⟩ := HD5.ex
              clear HD5
              have h1 : OwnFL W5 a1 b1 a zs := h1
              have h2 : OwnFL W5 a2 b2 b ys := h2
              have h3 : OwnFL W5 a3 b3 g r.gains := h3
              obtain ⟨pa, ca, rfl⟩ := h1.rd.shape
              obtain ⟨pb, cb, rfl⟩ := h2.rd.shape
              obtain ⟨pg, cg, rfl⟩ := h3.rd.shape
              have hone := oneFlt W5.drew x
              have kAL : Below W5.heap.size W5 (W5.drew.alloc (.cells #[.float .f32 x] 23)) := ((Drew.one W5 1).below _).alloc (Nat.le_refl _) _
              have hqz5 := hq.lt
              have z1 := h1.own.hsz
              have z2 := h2.own.hsz
              have z3 := h3.own.hsz
              have c2w := hq.c2
              have hqA := hq.below kAL hqz5
              have c2a := hqA.c2
              have HQA := Lib.hid hqA
              have H1A := Lib.hid (h1.below kAL z1)
              have H2A := Lib.hid (h2.below kAL z2)
              have H3A := Lib.hid (h3.below kAL z3)
              have HAP := Lib.hid (And.intro hrr (And.intro hdd hee))
              have HONE := Lib.hid hone.rd
              obtain ⟨hra1, hra2, hra3, hraq, hrab, hrac⟩ := hrr
              obtain ⟨_, hee2, _⟩ := hee
              have hee2' : q < a2 ∨ b2 ≤ q := hee2
              have HLB := Lib.hid (show ys.length + [x].length ≤ 1099511627776 by simp; omega)
              have HLC := Lib.hid (show a2 ≤ (W5.drew.alloc (.cells #[.float .f32 x] 23)).heap.size by have := kAL.size; omega)
              have HKA := Lib.hid kAL
              clear hone kAL hq h1 h2 h3 hdd hee2 hqA hbd5 hcell hr5
              go_wp2_with fail
              go_region_law ((refine step_appFLs (by rfl) _ _ (by rfl) _ ys (by first | (simp [Act.eval]; done) | (simp [Act.eval, Act.put]; done)) H2A.out _ [x] (by first | (simp [Act.eval]; done) | (simp [Act.eval, Act.put]; done)) HONE.out HLB.out HLC.out ?_; intro v6 w6 ho6 hsm6 hz6 hbl6; rw [← HUS.out] at ho6; obtain ⟨ya6, yc6, hye⟩ := ho6.rd.shape; subst hye; have hq6 := HQA.out.same hsm6 hee2'; have c6 := hq6.c2; have f6 := hq6.f2))
              all_goals
                have HD7 := DropC.grow2 (r := ⟨r.vars, zs, ys, r.gains⟩) (B := W1.heap.size) HQA.out H1A.out H2A.out H3A.out HAP.out.1 HAP.out.2.1 HAP.out.2.2 ho6 hsm6 hz6 hbl6 (Nat.le_refl _)
                have HB7 := ((HB5.trans (HKA.out.mono hs5)).trans (hsm6.below hra2 (Nat.le_trans hs5 HKA.out.size))).setCell (p := ⟨q, 2, none⟩) hraq (.slice ya6 us.length yc6)
                clear HAP HQA H1A H2A H3A ho6 hsm6 hz6 hbl6 c6 f6 c2w c2a HONE HKA HLC
                go_wp2
                go_roundw
                case rel => exact ⟨k + 1, by omega, by go_num, by rw [HX2.out, HY.out]; exact HD7, HB7⟩
                case measure => simp [intOf]; omega
        · obtain rfl : k = r.bounds.length := by omega
          have hro : Below w.heap.size w wr := (HBW1.out.trans (HBr.out.mono (by omega)))
          have hr1 := HR1.out.below hb HR1.out.lt
          have j0 := hr1.c0
          have j1 := hr1.c1
          have j2 := hr1.c2
          have j3 := hr1.c3
          have g0 := hr1.f0
          have g1 := hr1.f1
          have g2 := hr1.f2
          have g3 := hr1.f3
          obtain ⟨xs, hxs⟩ : ∃ xs, xs = dropN r.numbers r.vars.toNat i.toNat r.bounds.length := ⟨_, rfl⟩
          obtain ⟨ys, hys⟩ : ∃ ys, ys = dropB r.bounds i.toNat r.bounds.length := ⟨_, rfl⟩
          rw [← hxs, ← hys] at hD HE
          clear hxs hys HDr
          obtain ⟨a, b, g, a1, b1, a2, b2, a3, b3, hq, h1, h2, h3, hrr, hdd, hee⟩ := hD.ex
          clear hD
          have h1 : OwnFL wr a1 b1 a xs := h1
          have h2 : OwnFL wr a2 b2 b ys := h2
          have h3 : OwnFL wr a3 b3 g r.gains := h3
          obtain ⟨pa, ca, rfl⟩ := h1.rd.shape
          obtain ⟨pb, cb, rfl⟩ := h2.rd.shape
          obtain ⟨pg, cg, rfl⟩ := h3.rd.shape
          have i0 := hq.c0
          have i1 := hq.c1
          have i2 := hq.c2
          have i3 := hq.c3
          have HX := Lib.hid (And.intro h1 (And.intro h2 (And.intro h3 (And.intro hrr (And.intro hdd hee)))))
          clear h1 h2 h3 hrr hdd hee
          go_wp2_with fail
          have hS := ((((Same.refl (w.heap.size + 1) (w.heap.size + 2) wr).setCell (p := ⟨w.heap.size + 1, 0, none⟩) (by simp) (by simp) (.int .i64 r.vars)).setCell (p := ⟨w.heap.size + 1, 1, none⟩) (by simp) (by simp) (.slice pa xs.length ca)).setCell (p := ⟨w.heap.size + 1, 2, none⟩) (by simp) (by simp) (.slice pb ys.length cb)).setCell (p := ⟨w.heap.size + 1, 3, none⟩) (by simp) (by simp) (.slice pg r.gains.length cg)
          obtain ⟨h1, h2, h3, hrr, hdd, hee⟩ := HX.out
          have z1 := h1.own.hsz
          have z2 := h2.own.hsz
          have z3 := h3.own.hsz
          have zS := hS.size
          refine bodyPost_ret (v := .tuple #[.agg #[.int .i64 r.vars, .slice pa xs.length ca, .slice pb ys.length cb, .slice pg r.gains.length cg], .bool true]) (by simp [results, Try.results13, go_sem, j0, j1, j2, j3]) rfl ⟨_, by rw [HE.out], by rw [HE.out]; exact ⟨⟨_, _, _, a1, b1, a2, b2, a3, b3, rfl, h1.same hS (by omega), h2.same hS (by omega), h3.same hS (by omega), by omega, hdd⟩, hrg, Nat.le_refl _⟩, hro.trans (hS.below (Nat.le_succ _) hro.size)⟩
end Go.Proofs.Ytocngcpdpeflnaa
