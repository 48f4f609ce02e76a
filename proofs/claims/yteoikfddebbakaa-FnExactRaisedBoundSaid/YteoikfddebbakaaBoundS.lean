/-
  A bound of tours: the reference's contract.
-/
import Derived.Test.YteoikfddebbakaaTreeS
namespace Go.Proofs.Yteoikfddebbakaa
open Go.RowKit
set_option linter.unusedVariables false
set_option maxRecDepth 100000

theorem wpList_appNew {w : World} {ops : Array Oper} {rest : List Oper} {o : Oper} {a : Act} {Q : Exit → Act → World → Prop} (hgd : o.guard = none) (s x : Operand)
    (ho : o.op = .call { callee := .builtin .append, args := #[s, x], argTypes := #[32, 32] })
    {lo hi : Nat} (v : Value) (xs : List Int) (hs : a.eval s = v) (ys : List Int) (cs : Array Value) (hcs : cs = (ys.map (Value.int .i64)).toArray) (m : Nat) (hm : m = ys.length) (e : TypeId) (hv : OwnI w lo hi v xs) (hx : a.eval x = .slice (some ⟨w.heap.size, 0, none⟩) m m)
    (h0 : 0 < ys.length) (hy : ∀ y ∈ ys, I64 y) (hl : xs.length + ys.length ≤ 1099511627776) (hlo : lo ≤ w.heap.size)
    (h : ∀ v' w', OwnI w' lo w'.heap.size v' (xs ++ ys) → Same lo hi w w' → w.heap.size + 1 ≤ w'.heap.size → (v'.ownBlock = v.ownBlock ∨ v'.ownBlock = some (w.heap.size + 1)) → wpList Try.prog ops Q rest (a.put o.dst v') w') :
    wpList Try.prog ops Q (o :: rest) a (w.alloc (.cells cs e)) := by
  subst hm
  refine wpList_appI hgd s x ho v xs hs (hv.alloc _) ys ⟨w.heap.size, 0, none⟩ ys.length hx h0 hy ?_ hl (by simp; omega) ?_
  · intro j hj
    rw [add_plain']
    rw [Nat.zero_add, cell_new_at w cs e j (by rw [hcs]; simpa using hj)]
    subst hcs
    simp [List.getD, hj]
  · intro v' w' h1 h2 h3 h4
    simp only [World.size_alloc] at h3 h4
    exact h v' w' h1 (((Same.refl lo hi w).alloc _).trans h2) h3 h4
theorem fstGo_yes {key : Int → Int} {m : Nat} {k c : Int} (h : key k < key c) : fstGo key (m + 1) k c = fstGo key m (k + 1) k := by rw [fstGo, if_pos h]
theorem fstGo_no {key : Int → Int} {m : Nat} {k c : Int} (h : ¬ key k < key c) : fstGo key (m + 1) k c = fstGo key m (k + 1) c := by rw [fstGo, if_neg h]
theorem sndGo_yes {key : Int → Int} {F : Int} {m : Nat} {k c : Int} (h1 : k ≠ F) (h : c < 0 ∨ key k < key c) : sndGo key F (m + 1) k c = sndGo key F m (k + 1) k := by rw [sndGo, if_pos ⟨h1, h⟩]
theorem sndGo_no {key : Int → Int} {F : Int} {m : Nat} {k c : Int} (h : k = F ∨ ¬ (c < 0 ∨ key k < key c)) : sndGo key F (m + 1) k c = sndGo key F m (k + 1) c := by
  rw [sndGo, if_neg]
  rintro ⟨h1, h2⟩
  rcases h with h | h
  · exact h1 h
  · exact h h2
set_option maxHeartbeats 2000000 in
set_option maxRecDepth 100000 in
theorem l04Bound_any {l h : Nat} (v : Value) (ws : List Int) (n : Nat) (w : World) (hv : Ints w l h v ws) (hh : h ≤ w.heap.size) (hl : n * n = ws.length) (hn3 : 3 ≤ n) (hn : n ≤ 10) (hr : WayRng (wayOf ws n) n) :
    Calls Try.prog 71 #[v, .int .i64 n] w fun e w' => ∃ u, e = .returned (.tuple #[u, .int .i64 (boundOf (wayOf ws n) n).2]) ∧ OwnI w' w.heap.size w'.heap.size u (boundOf (wayOf ws n) n).1 ∧ Below w.heap.size w w' := by
  have HT := Lib.hid (l04Tree_any v ws n 1 w hv hh hl (by omega) hn hr)
  have HTE := treeGo_rng (wayOf ws n) 1 (n - 1) (by omega) 1000000 (fun a b h1 h2 h3 h4 => hr a b (by omega) (by omega) (by omega) (by omega)) (n - 1 - 1) [1] [] 0 (by simp; omega) ⟨1, by omega, by omega, by simp⟩ (by simp)
  have HTE2 : Hid (treeGo (wayOf ws n) 1 (n - 1) (n - 1 - 1) [1] [] 0 = treeOf (wayOf ws n) 1 (n - 1)) := rfl
  rw [HTE2.out] at HTE
  obtain ⟨_, q2, q3, q4⟩ := HTE
  have HBO : Hid (boundOf (wayOf ws n) n = ((treeOf (wayOf ws n) 1 (n - 1)).1 ++ [0, fstOf (wayOf ws n 0) n, 0, sndOf (wayOf ws n 0) n], (treeOf (wayOf ws n) 1 (n - 1)).2 + wayOf ws n 0 (fstOf (wayOf ws n 0) n) + wayOf ws n 0 (sndOf (wayOf ws n 0) n))) := by
    rw [Hid, boundOf]; simp
  obtain ⟨va, vc, rfl, hc1, hc2, hd⟩ := hv.out
  have hll : ws.length ≤ 100 := by rw [← hl]; exact prod_le hn hn
  have hnl : n ≤ ws.length := by rw [← hl]; have := Nat.mul_le_mul_right n (show 1 ≤ n by omega); omega
  rcases hd with hd | ⟨b, off, rfl, hb1, hb2, hb3, hcell⟩
  · exfalso
    rw [hd] at hnl
    simp at hnl; omega
  have HCELL : Hid (∀ (wx : World) (k : Nat), Below w.heap.size w wx → k < n → wx.cell? ⟨b, off + k, none⟩ = some (.int .i64 (wayOf ws n 0 (k : Int)))) := fun wx k hb hk => by
    have e := wayOf_nat ws n 0 k
    rw [Nat.zero_mul, Nat.zero_add] at e
    rw [hb.cell (p := ⟨b, off + k, none⟩) (show b < w.heap.size by omega), show (0 : Int) = ((0 : Nat) : Int) from rfl, e]
    exact hcell _ (by omega)
  have HR := Lib.hid (fun (k : Int) (h1 : 0 ≤ k) (h2 : k < n) => hr 0 k (by omega) (by omega) h1 h2)
  obtain ⟨K, hK⟩ : ∃ K, K = wayOf ws n 0 := ⟨_, rfl⟩
  rw [← hK] at HCELL HR HBO
  obtain ⟨E, hE⟩ : ∃ E, E = (treeOf (wayOf ws n) 1 (n - 1)).1 := ⟨_, rfl⟩
  obtain ⟨t, ht⟩ : ∃ t, t = (treeOf (wayOf ws n) 1 (n - 1)).2 := ⟨_, rfl⟩
  rw [show ((1 : Nat) : Int) = 1 from rfl] at HT
  rw [← hE] at HT q2 HBO
  rw [← ht] at HT q3 q4 HBO
  obtain ⟨L, hL⟩ : ∃ L, L = ws.length := ⟨_, rfl⟩
  rw [← hL] at hll hc1 hnl HT ⊢
  have hq2 : E.length ≤ 20 := by rw [q2]; simp; omega
  have hq3 : -10000000 ≤ t := by omega
  have hq4 : t ≤ 10000000 := by omega
  have HF0 : Hid (fstGo K (n - 2) 2 1 = fstOf K n) := rfl
  clear hr hv hcell hK hl hL hE ht q2 q3 q4 HTE2
  go_enter Try.func71, Try.ntmps71
  go_wp2_with fail
  refine HT.out.mono ?_
  rintro e w1 ⟨u, rfl, ho1, hb1⟩
  have HE1 := Lib.hid ho1
  have HB1 := Lib.hid hb1
  have hs1 := hb1.size
  clear ho1 hb1 HT
  go_wp2_with fail
  go_loopw [8, 9] (fun fv kv wr => ∃ (k f : Nat), 2 ≤ k ∧ k ≤ n ∧ 1 ≤ f ∧ f < k ∧ kv = .int .i64 k ∧ fv = .int .i64 f ∧ Hid (fstGo K (n - k) k f = fstOf K n) ∧ Hid (Drew w1 wr)) (fun _ kv _ => n - (intOf kv).toNat)
  case atStart => exact ⟨2, 1, Nat.le_refl _, by omega, by omega, by omega, rfl, rfl, HF0, Drew.refl _⟩
  case round =>
    clear HF0
    obtain ⟨k, f, hk1, hk2, hf1, hf2, rfl, rfl, HG, HD⟩ := hrel
    by_cases hkn : k < n
    · have hBR := HB1.out.trans (HD.out.below _)
      have c1 := HCELL.out wr k hBR hkn
      have c2 := HCELL.out wr f hBR (by omega)
      have hnk : n - k = (n - (k + 1)) + 1 := by omega
      have HYES : Hid (K k < K f → fstGo K (n - (k + 1)) ((k : Int) + 1) k = fstOf K n) := fun h => by rw [← HG.out, hnk, fstGo_yes h]
      have HNO : Hid (¬ K k < K f → fstGo K (n - (k + 1)) ((k : Int) + 1) f = fstOf K n) := fun h => by rw [← HG.out, hnk, fstGo_no h]
      obtain ⟨x, hx⟩ : ∃ x, x = K k := ⟨_, rfl⟩
      obtain ⟨y, hy⟩ : ∃ y, y = K f := ⟨_, rfl⟩
      rw [← hx] at c1 HYES HNO
      rw [← hy] at c2 HYES HNO
      clear hx hy hBR hnk HG
      by_cases hxy : x < y
      · have HN := Lib.hid (HYES.out hxy)
        go_wp2_with fail
        go_quiet (fail)
        go_wp2
        go_roundw
        case rel => exact ⟨k + 1, k, by omega, by omega, by omega, by omega, by go_num, rfl, HN, HD.out.step _⟩
        case measure => (simp [intOf]; try omega)
      · have HN := Lib.hid (HNO.out hxy)
        have hxyd : decide (x < y) = false := decide_eq_false hxy
        go_wp2_with fail
        go_quiet (fail)
        go_wp2
        go_roundw
        case rel => exact ⟨k + 1, f, by omega, by omega, by omega, by omega, by go_num, rfl, HN, HD.out.step _⟩
        case measure => (simp [intOf]; try omega)
    · obtain rfl : k = n := by omega
      have HFE : Hid ((f : Int) = fstOf K k) := by rw [Hid, ← HG.out, Nat.sub_self, fstGo]
      have HS0 : Hid (sndGo K f (k - 1) 1 (-1) = sndOf K k) := by rw [Hid, HFE.out]; rfl
      obtain ⟨_, s2, s3, _⟩ := sndOf_ok K hn3
      obtain ⟨wp, hwp⟩ : ∃ wp : World, wp = wr := ⟨_, rfl⟩
      rw [← hwp] at HD ⊢
      rw [← HFE.out] at HBO
      clear hwp HG
      go_wp2_with fail
      go_loopw [10, 11] (fun cv jv wr => ∃ (j : Nat) (c : Int), 1 ≤ j ∧ j ≤ k ∧ jv = .int .i64 j ∧ cv = .int .i64 c ∧ c < j ∧ -1 ≤ c ∧ Hid (sndGo K f (k - j) j c = sndOf K k) ∧ Hid (Drew w1 wr)) (fun _ jv _ => k - (intOf jv).toNat)
      case atStart => exact ⟨1, -1, by omega, by omega, rfl, rfl, by omega, by omega, HS0, HD⟩
      case round =>
        clear HS0 HD
        obtain ⟨j, c, hj1, hj2, rfl, rfl, hcj, hc0, HG, HD⟩ := hrel
        by_cases hjk : j < k
        · have hnk : k - j = (k - (j + 1)) + 1 := by omega
          have hBR := HB1.out.trans (HD.out.below _)
          have c1 := HCELL.out wr j hBR hjk
          by_cases hjf : j = f
          · have HN : Hid (sndGo K f (k - (j + 1)) ((j : Int) + 1) c = sndOf K k) := by rw [Hid, ← HG.out, hnk, sndGo_no (.inl (by omega))]
            have e1 : ((j : Int) == (f : Int)) = true := by simp; omega
            have e2 : (j == f) = true := by simp; omega
            have e3 : ((j : Int) != (f : Int)) = false := by simp; omega
            have e4 : (j != f) = false := by simp; omega
            clear hnk HG hBR hjf
            go_wp2_with fail
            go_quiet (fail)
            go_wp2
            go_roundw
            case rel => exact ⟨j + 1, c, by omega, by omega, by go_num, rfl, by omega, by omega, HN, HD.out.step _⟩
            case measure => (simp [intOf]; try omega)
          · have e1 : ((j : Int) == (f : Int)) = false := by simp; omega
            have e2 : (j == f) = false := by simp; omega
            have e3 : ((j : Int) != (f : Int)) = true := by simp; omega
            have e4 : (j != f) = true := by simp; omega
            by_cases hcn : c < 0
            · have HN : Hid (sndGo K f (k - (j + 1)) ((j : Int) + 1) j = sndOf K k) := by rw [Hid, ← HG.out, hnk, sndGo_yes (by omega) (.inl hcn)]
              clear hnk HG hBR
              go_wp2_with fail
              go_quiet (fail)
              go_wp2
              go_roundw
              case rel => exact ⟨j + 1, j, by omega, by omega, by go_num, rfl, by omega, by omega, HN, HD.out.step _⟩
              case measure => (simp [intOf]; try omega)
            · obtain ⟨C, rfl⟩ : ∃ C : Nat, c = (C : Int) := ⟨c.toNat, by omega⟩
              have c2 := HCELL.out wr C hBR (by omega)
              have z1 : (j : Int) < (L : Int) := by omega
              have z2 : (C : Int) < (L : Int) := by omega
              have z3 : (0 : Int) ≤ (j : Int) := by omega
              have z4 : (0 : Int) ≤ (C : Int) := by omega
              have z5 : ¬ (C : Int) < 0 := by omega
              have HYES : Hid (K j < K C → sndGo K f (k - (j + 1)) ((j : Int) + 1) j = sndOf K k) := fun h => by rw [← HG.out, hnk, sndGo_yes (by omega) (.inr h)]
              have HNO : Hid (¬ K j < K C → sndGo K f (k - (j + 1)) ((j : Int) + 1) C = sndOf K k) := fun h => by rw [← HG.out, hnk, sndGo_no (.inr (by omega))]
              obtain ⟨x, hx⟩ : ∃ x, x = K j := ⟨_, rfl⟩
              obtain ⟨y, hy⟩ : ∃ y, y = K C := ⟨_, rfl⟩
              rw [← hx] at c1 HYES HNO
              rw [← hy] at c2 HYES HNO
              clear hx hy hBR hnk HG
              by_cases hxy : x < y
              · have HN := Lib.hid (HYES.out hxy)
                go_wp2_with fail
                go_quiet (fail)
                go_wp2
                go_roundw
                case rel => exact ⟨j + 1, j, by omega, by omega, by go_num, rfl, by omega, by omega, HN, HD.out.step _⟩
                case measure => (simp [intOf]; try omega)
              · have HN := Lib.hid (HNO.out hxy)
                have hxyd : decide (x < y) = false := decide_eq_false hxy
                go_wp2_with fail
                go_quiet (fail)
                go_wp2
                go_roundw
                case rel => exact ⟨j + 1, C, by omega, by omega, by go_num, rfl, by omega, by omega, HN, HD.out.step _⟩
                case measure => (simp [intOf]; try omega)
        · obtain rfl : j = k := by omega
          have HCE : Hid (c = sndOf K j) := by rw [Hid, ← HG.out, Nat.sub_self, sndGo]
          obtain ⟨s1, s2, _, _⟩ := sndOf_ok K hn3
          rw [← HCE.out] at s1 s2 HBO
          obtain ⟨C, rfl⟩ : ∃ C : Nat, c = (C : Int) := ⟨c.toNat, by omega⟩
          have r1 := HR.out (f : Int) (by omega) (by omega)
          have r2 := HR.out (C : Int) (by omega) (by omega)
          have HC2 : Hid (∀ wx, Below w.heap.size w wx → wx.cell? ⟨b, off + f, none⟩ = some (.int .i64 (K f)) ∧ wx.cell? ⟨b, off + C, none⟩ = some (.int .i64 (K C))) := fun wx hb => ⟨HCELL.out wx f hb (by omega), HCELL.out wx C hb (by omega)⟩
          obtain ⟨x, hx⟩ : ∃ x, x = K f := ⟨_, rfl⟩
          obtain ⟨y, hy⟩ : ∃ y, y = K C := ⟨_, rfl⟩
          rw [← hx] at r1 HC2 HBO
          rw [← hy] at r2 HC2 HBO
          have x1 := r1.1
          have x2 := r1.2
          have y1 := r2.1
          have y2 := r2.2
          have HEr := Lib.hid ((HE1.out.drew HD.out).mono (Nat.le_refl _) (show w1.heap.size ≤ wr.heap.size by rw [HD.out.heap]; exact Nat.le_refl _) (Nat.le_refl _))
          have HBr := Lib.hid (HB1.out.trans (HD.out.below _))
          have hsr := HBr.out.size
          obtain ⟨ea, ec, rfl⟩ := HEr.out.shape2
          have HI : Hid (∀ z ∈ [(0 : Int), f, 0, C], I64 z) := by
            intro z hz
            simp at hz
            unfold I64
            omega
          have hjL : j ≤ L := hnl
          clear hx hy r1 r2 HG HD HE1 HB1 HCE HFE
          go_wp2_with (at_builtin; refine wpList_appNew rfl _ _ rfl _ E rfl [0, (f : Int), 0, (C : Int)] _ rfl 4 rfl _ HEr.out rfl (by simp) HI.out (by simp; omega) hsr ?_)
          intro v3 w3 ho3 hsm3 hz3 _
          have HB3 := Lib.hid (HBr.out.trans (hsm3.below (Nat.le_refl _) hsr))
          have HE3 := Lib.hid ho3
          obtain ⟨c1, c2⟩ := HC2.out w3 HB3.out
          have v1 : IntKind.i64.wrap (t + x) = t + x := IntWalk.i64_in _ (by omega)
          have v2 : IntKind.i64.wrap (t + x + y) = t + x + y := IntWalk.i64_in _ (by omega)
          have z1 : (f : Int) < (L : Int) := by omega
          have z2 : (C : Int) < (L : Int) := by omega
          have z3 : (0 : Int) ≤ (f : Int) := by omega
          have z4 : (0 : Int) ≤ (C : Int) := by omega
          clear ho3 hsm3 hz3
          go_wp2_with fail
          go_quiet (fail)
          clear v1 v2
          go_wp2
          go_ret2
          exact ⟨_, by rw [HBO.out]; rfl, by rw [HBO.out]; exact HE3.out.drewN _, HB3.out.trans ((Drew.one _ _).below _)⟩
/-! ### TourBound -/
def tourBound (ws : List Int) : Int × Bool := if 3 ≤ citN ws then ((boundOf (wayOf ws (citN ws)) (citN ws)).2, true) else (0, false)
theorem cit_facts {ws : List Int} (h : 3 ≤ citN ws) : isCit ws = true ∧ citN ws = root ws.length ∧ citN ws ≤ 10 ∧ citN ws * citN ws = ws.length ∧ WayRng (wayOf ws (citN ws)) (citN ws) := by
  have hc : isCit ws = true := citN_pos.1 (by omega)
  obtain ⟨h1, h2, h3, h4, h5⟩ := isCit_out hc
  have e := citN_yes hc
  rw [← e] at h1 h2 h3
  exact ⟨hc, e, h2, h3, fun a b a1 a2 b1 b2 => by have := wayOf_rng h3 h4 a1 a2 b1 b2; omega⟩
set_option maxHeartbeats 1000000 in
set_option maxRecDepth 100000 in
theorem specTourBound_any (w : World) {l h : Nat} (v : Value) (ws : List Int) (hv : Ints w l h v ws) (hh : h ≤ w.heap.size) (hz : ws.length ≤ 1048576) :
    Calls Try.prog 29 #[v] w fun e w' => e = .returned (.tuple #[.int .i64 (tourBound ws).1, .bool (tourBound ws).2]) ∧ Below w.heap.size w w' := by
  have HC := Lib.hid (l04Count_any v ws w hv hz)
  have HV := Lib.hid hv
  obtain ⟨va, vc, rfl, hc1, hc2, _⟩ := hv.out
  by_cases h3 : 3 ≤ citN ws
  · obtain ⟨q1, q2, q3, q4, q5⟩ := cit_facts h3
    have HE := Lib.hid (show tourBound ws = ((boundOf (wayOf ws (citN ws)) (citN ws)).2, true) by rw [tourBound, if_pos h3])
    obtain ⟨n, hn⟩ : ∃ n, n = citN ws := ⟨_, rfl⟩
    rw [← hn] at HC HE h3 q3 q4 q5
    have HQ4 := Lib.hid q4
    have HQ5 := Lib.hid q5
    clear hv q1 q2 hn q4 q5
    go_enter Try.func29, Try.ntmps29
    go_wp2_with fail
    refine HC.out.mono ?_
    rintro e w1 ⟨rfl, hd⟩
    have HD := Lib.hid hd
    have hs1 : w.heap.size ≤ w1.heap.size := by rw [hd.heap]; exact Nat.le_refl _
    have HB := Lib.hid (l04Bound_any _ ws n w1 (HV.out.drew hd) (by omega) HQ4.out h3 q3 HQ5.out)
    clear hd
    go_wp2_with fail
    refine HB.out.mono ?_
    rintro e w2 ⟨u, rfl, ho2, hb2⟩
    have HB2 := Lib.hid ((HD.out.below w.heap.size).trans (hb2.mono hs1))
    clear ho2 hb2
    go_wp2
    go_ret2
    exact ⟨ret_p HE.out, HB2.out⟩
  · have HE := Lib.hid (show tourBound ws = (0, false) by rw [tourBound, if_neg h3])
    obtain ⟨n, hn⟩ : ∃ n, n = citN ws := ⟨_, rfl⟩
    rw [← hn] at HC h3
    have hn3 : n < 3 := by omega
    clear hv hn
    go_enter Try.func29, Try.ntmps29
    go_wp2_with fail
    refine HC.out.mono ?_
    rintro e w1 ⟨rfl, hd⟩
    have HD := Lib.hid hd
    clear hd
    go_wp2
    go_ret2
    exact ⟨ret_p HE.out, HD.out.below _⟩
set_option maxHeartbeats 1000000 in
set_option maxRecDepth 100000 in
theorem tourWay_any {l h p q n : Nat} (v : Value) (ws : List Int) (w : World) (hp : w.cell? ⟨p, 0, none⟩ = some v) (hq : w.cell? ⟨q, 0, none⟩ = some (.int .i64 n)) (hv : Ints w l h v ws) (hl : n * n = ws.length) (hn : n ≤ 10) (a b : Int) (ha : 0 ≤ a) (ha2 : a < n) (hb : 0 ≤ b) (hb2 : b < n) :
    Calls Try.prog 75 #[.int .i64 a, .int .i64 b, .pointer (some ⟨p, 0, none⟩), .pointer (some ⟨q, 0, none⟩)] w fun e w' => e = .returned (.int .i64 (wayOf ws n a b)) ∧ Drew w w' := by
  obtain ⟨A, rfl⟩ : ∃ A : Nat, a = (A : Int) := ⟨a.toNat, by omega⟩
  obtain ⟨B, rfl⟩ : ∃ B : Nat, b = (B : Int) := ⟨b.toNat, by omega⟩
  have hA : A < n := by omega
  have hB : B < n := by omega
  obtain ⟨va, vc, rfl, hc1, hc2, hd⟩ := hv.out
  have hpl := pos_lt hA hB
  rcases hd with hd | ⟨blk, off, rfl, hb1, hbb2, hb3, hcell⟩
  · exfalso; rw [hl, hd] at hpl; simp at hpl
  have hc := hcell (A * n + B) (by omega)
  have HE := Lib.hid (wayOf_nat ws n A B)
  have hp1 := prod_nat A n
  have hq1 := prod_le (i := A) (n := n) (by omega) hn
  have hpl2 : A * n + B < ws.length := by omega
  obtain ⟨x, hx⟩ : ∃ x, x = ws.getD (A * n + B) 0 := ⟨_, rfl⟩
  rw [← hx] at hc HE
  obtain ⟨s, hs⟩ : ∃ s, s = A * n := ⟨_, rfl⟩
  rw [← hs] at hc hp1 hq1 hpl2
  have z1 : (s : Int) + (B : Int) < (ws.length : Int) := by omega
  have z2 : (0 : Int) ≤ (s : Int) + (B : Int) := by omega
  have z6 : ((s : Int) + (B : Int)).toNat = s + B := by omega
  clear hcell hv hl hx hs hpl
  go_enter Try.func75, Try.ntmps75
  go_wp2
  go_ret
  exact ⟨ret_int HE.out.symm, Drew.refl _⟩
set_option maxHeartbeats 1000000 in
set_option maxRecDepth 100000 in
theorem implTourBound_any (w : World) {l h : Nat} (v : Value) (ws : List Int) (hv : Ints w l h v ws) (hh : h ≤ w.heap.size) (hz : ws.length ≤ 1048576) :
    Calls Try.prog 30 #[v] w fun e w' => e = .returned (.tuple #[.int .i64 (tourBound ws).1, .bool (tourBound ws).2]) ∧ Below w.heap.size w w' := by
  obtain ⟨va, vc, rfl, hc1, hc2, _⟩ := hv.out
  obtain ⟨W0, hW⟩ : ∃ W0, W0 = w.alloc (.cells #[.slice va ws.length vc] 32) := ⟨_, rfl⟩
  have hb0 : Below w.heap.size w W0 := by rw [hW]; exact (Below.refl _ _).alloc (Nat.le_refl _) _
  have hs0 : w.heap.size < W0.heap.size := by rw [hW]; simp
  have hp0 : W0.cell? ⟨w.heap.size, 0, none⟩ = some (.slice va ws.length vc) := by rw [hW]; exact one_new _ _ _
  have HV := Lib.hid (hv.below hb0 hh)
  have HA := Lib.hid (areCities_any _ ws W0 HV.out hz)
  have HB0 := Lib.hid hb0
  have HP0 := Lib.hid hp0
  have HW := Lib.hid hW
  cases hic : isCit ws
  · have HE := Lib.hid (show tourBound ws = (0, false) by rw [tourBound, citN_no hic, if_neg (by omega)])
    rw [hic] at HA
    clear hv hb0 hW hic hp0
    go_enter Try.func30, Try.ntmps30
    go_wp2_with fail
    rw [← HW.out]
    have hp := HP0.out
    go_wp2_with fail
    refine HA.out.mono ?_
    rintro e w1 ⟨rfl, hd⟩
    have HD := Lib.hid hd
    clear hd hp
    go_wp2
    go_ret2
    exact ⟨ret_p HE.out, HB0.out.trans (HD.out.below _)⟩
  · obtain ⟨r1, r2, r3, r4, _⟩ := isCit_out hic
    have en := citN_yes hic
    have ec : citI ws.length = (root ws.length : Int) := by rw [citI, if_neg (by omega)]
    have HC := Lib.hid (fun (wx : World) (hv : Ints wx l h (.slice va ws.length vc) ws) => cities_any _ ws wx hv hz)
    rw [ec, ← en] at HC
    rw [hic] at HA
    rw [← en] at r1 r2 r3
    by_cases h3 : 3 ≤ citN ws
    · obtain ⟨q1, q2, q3, q4, q5⟩ := cit_facts h3
      have HE := Lib.hid (show tourBound ws = ((boundOf (wayOf ws (citN ws)) (citN ws)).2, true) by rw [tourBound, if_pos h3])
      obtain ⟨n, hn⟩ : ∃ n, n = citN ws := ⟨_, rfl⟩
      rw [← hn] at HC HE h3 q3 q4 q5
      have HQ4 := Lib.hid q4
      have HQ5 := Lib.hid q5
      have hn3 : ¬ (n : Int) < 3 := by omega
      clear hv hb0 hW hic hp0 r1 r2 r3 r4 en ec q1 q2 q4 q5 hn
      go_enter Try.func30, Try.ntmps30
      go_wp2_with fail
      rw [← HW.out]
      have hp := HP0.out
      go_wp2_with fail
      refine HA.out.mono ?_
      rintro e w1 ⟨rfl, hd⟩
      have HD := Lib.hid hd
      have hp1 : w1.cell? ⟨w.heap.size, 0, none⟩ = some (.slice va ws.length vc) := by rw [HD.out.cell]; exact HP0.out
      have HC1 := Lib.hid (HC.out w1 (HV.out.drew HD.out))
      have hs1 : w1.heap.size = W0.heap.size := by rw [HD.out.heap]
      have HS1 := Lib.hid hs1
      have HP1 := Lib.hid hp1
      clear hd hp hs1
      go_wp2_with fail
      refine HC1.out.mono ?_
      rintro e w' ⟨rfl, rfl⟩
      go_wp2_with fail
      refine HC1.out.mono ?_
      rintro e w' ⟨rfl, rfl⟩
      have hs1w : w.heap.size < w1.heap.size := by rw [HS1.out]; exact hs0
      have HBX : Hid (∀ wx, Below (w1.alloc (.cells #[.int .i64 (n : Int)] 2)).heap.size (w1.alloc (.cells #[.int .i64 (n : Int)] 2)) wx → Below w1.heap.size w1 wx ∧ wx.cell? ⟨w1.heap.size, 0, none⟩ = some (.int .i64 (n : Int))) := fun wx hb => by
        have h1 : (w1.alloc (.cells #[.int .i64 (n : Int)] 2)).heap.size = w1.heap.size + 1 := by simp
        refine ⟨((Below.refl _ _).alloc (Nat.le_refl _) _).trans (hb.mono (by omega)), ?_⟩
        rw [hb.cell (p := ⟨w1.heap.size, 0, none⟩) (show w1.heap.size < _ by omega)]
        exact one_new _ _ _
      have HBE := Lib.hid (boundEdges_any 75 (fun _ _ => by kernel_rfl) #[.pointer (some ⟨w.heap.size, 0, none⟩), .pointer (some ⟨w1.heap.size, 0, none⟩)] (wayOf ws n) n (w1.alloc (.cells #[.int .i64 (n : Int)] 2)) h3 q3 (fun wx hb a b a1 a2 b1 b2 => by
        obtain ⟨g1, g2⟩ := HBX.out wx hb
        exact tourWay_any _ ws wx (by rw [g1.cell (p := ⟨w.heap.size, 0, none⟩) hs1w]; exact HP1.out) g2 ((HV.out.drew HD.out).below g1 (by omega)) HQ4.out q3 a b a1 a2 b1 b2) HQ5.out)
      clear hp1
      have hp1 := HP1.out
      go_wp2_with fail
      refine HBE.out.mono ?_
      rintro e w2 ⟨u, rfl, _, hb2⟩
      have HB2 : Hid (Below w.heap.size w w2) := (HB0.out.trans (HD.out.below _)).trans (((alloc_belowT w1 _).trans (hb2.mono (by simp))).mono (by omega))
      clear hb2
      go_wp2
      go_ret2
      exact ⟨ret_p HE.out, HB2.out⟩
    · have HE := Lib.hid (show tourBound ws = (0, false) by rw [tourBound, if_neg h3])
      obtain ⟨n, hn⟩ : ∃ n, n = citN ws := ⟨_, rfl⟩
      rw [← hn] at HC h3
      have hn3 : n < 3 := by omega
      clear hv hb0 hW hic hp0 r1 r2 r3 r4 en ec hn
      go_enter Try.func30, Try.ntmps30
      go_wp2_with fail
      rw [← HW.out]
      have hp := HP0.out
      go_wp2_with fail
      refine HA.out.mono ?_
      rintro e w1 ⟨rfl, hd⟩
      have HD := Lib.hid hd
      have hp1 : w1.cell? ⟨w.heap.size, 0, none⟩ = some (.slice va ws.length vc) := by rw [HD.out.cell]; exact HP0.out
      have HC1 := Lib.hid (HC.out w1 (HV.out.drew HD.out))
      clear hd hp
      go_wp2_with fail
      refine HC1.out.mono ?_
      rintro e w' ⟨rfl, rfl⟩
      go_wp2
      go_ret2
      exact ⟨ret_p HE.out, HB0.out.trans (HD.out.below _)⟩
end Go.Proofs.Yteoikfddebbakaa
