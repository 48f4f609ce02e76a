/-
  RaisedBound: the reference's contract.
-/
import Derived.Test.YteoikfddebbakaaRaiseI
import Derived.Deep.RegionHeld3
namespace Go.Proofs.Yteoikfddebbakaa
open Go.RowKit
set_option linter.unusedVariables false
set_option maxRecDepth 100000

set_option maxHeartbeats 4000000 in
set_option maxRecDepth 100000 in
theorem specRaisedBound_any (w : World) {l h : Nat} (v : Value) (ws : List Int) (rounds : Int) (hv : Ints w l h v ws) (hh : h ≤ w.heap.size) (hz : ws.length ≤ 1048576) (kr : I64 rounds) :
    Calls Try.prog 31 #[v, .int .i64 rounds] w fun e w' => ∃ u, e = .returned (.tuple #[.int .i64 (raised ws rounds).1, u, .bool (raised ws rounds).2.2]) ∧ OwnI w' w.heap.size w'.heap.size u (raised ws rounds).2.1 ∧ Below w.heap.size w w' := by
  have HC := Lib.hid (l04Count_any v ws w hv hz)
  have HV := Lib.hid hv
  obtain ⟨va, vc, rfl, hc1, hc2, hd⟩ := hv.out
  by_cases h3 : 3 ≤ citN ws
  rotate_left
  · have HE := Lib.hid (show raised ws rounds = (0, [], false) by rw [raised, if_neg (fun h' => h3 h'.1)])
    obtain ⟨n, hn⟩ : ∃ n, n = citN ws := ⟨_, rfl⟩
    rw [← hn] at HC h3
    have hn3 : n < 3 := by omega
    clear hv hd hn
    go_enter Try.func31, Try.ntmps31
    go_wp2_with fail
    refine HC.out.mono ?_
    rintro e w1 ⟨rfl, hd⟩
    have HD := Lib.hid hd
    clear hd
    go_wp2
    go_ret3
    exact ⟨_, by rw [HE.out]; rfl, by rw [HE.out]; exact OwnI.nil _ _ _ (Nat.le_refl _), HD.out.below _⟩
  have HWI := Lib.hid (l00In_any rounds 0 50)
  cases hro : inB 0 50 rounds
  · have HE := Lib.hid (show raised ws rounds = (0, [], false) by rw [raised, if_neg (fun h' => by rw [hro] at h'; exact absurd h'.2 (by decide))])
    rw [hro] at HWI
    obtain ⟨n, hn⟩ : ∃ n, n = citN ws := ⟨_, rfl⟩
    rw [← hn] at HC h3
    have hn3 : ¬ n < 3 := by omega
    clear hv hd hn hro
    go_enter Try.func31, Try.ntmps31
    go_wp2_with fail
    refine HC.out.mono ?_
    rintro e w1 ⟨rfl, hd⟩
    have HD := Lib.hid hd
    clear hd
    go_wp2_with fail
    refine (HWI.out _).mono ?_
    rintro e w' ⟨rfl, rfl⟩
    go_wp2
    go_ret3
    exact ⟨_, by rw [HE.out]; rfl, by rw [HE.out]; exact OwnI.nil _ _ _ (Nat.le_refl _), HD.out.below _⟩
  rw [hro] at HWI
  obtain ⟨q1, q2, q3, q4, q5⟩ := cit_facts h3
  have hrr := inB_true hro
  obtain ⟨R, rfl⟩ : ∃ R : Nat, rounds = (R : Int) := ⟨rounds.toNat, by omega⟩
  have hR50 : R ≤ 50 := by omega
  have HE := Lib.hid (show raised ws (R : Int) = ((raGo ws (citN ws) (R + 1) true 0 [] (List.replicate (citN ws) 0)).1, (raGo ws (citN ws) (R + 1) true 0 [] (List.replicate (citN ws) 0)).2, true) by rw [raised, if_pos ⟨h3, hro⟩, Int.toNat_natCast])
  have HWS := Lib.hid (isCit_out q1).2.2.2.1
  obtain ⟨n, hn⟩ : ∃ n, n = citN ws := ⟨_, rfl⟩
  rw [← hn] at HC HE h3 q3 q4 q5
  have HQ4 := Lib.hid q4
  have hn3 : ¬ n < 3 := by omega
  have hmk := raise_made n (by omega)
  obtain ⟨RES, hRES⟩ : ∃ r, r = raGo ws n (R + 1) true 0 [] (List.replicate n 0) := ⟨_, rfl⟩
  rw [← hRES] at HE
  have HRES := Lib.hid hRES
  have hll : n * n ≤ 100 := prod_le q3 q3
  obtain ⟨NN, hNN⟩ : ∃ NN, NN = n * n := ⟨_, rfl⟩
  have hsq : (n : Int) * (n : Int) = (NN : Int) := by rw [hNN, prod_nat]
  rw [← hNN] at hll
  have HNN := Lib.hid hNN
  have hNL : Hid (NN = ws.length) := by rw [Hid, hNN]; exact q4
  obtain ⟨L, hL⟩ : ∃ L, L = ws.length := ⟨_, rfl⟩
  rcases hd with hd | ⟨b, off, rfl, hb1, hb2, hb3, hcell⟩
  · exfalso
    rw [hd] at q4
    have := Nat.mul_pos (show 0 < n by omega) (show 0 < n by omega)
    simp at q4; omega
  have HCELL := Lib.hid hcell
  have HL := Lib.hid hL
  rw [← hL] at hc1 ⊢
  have hLN : L = NN := by rw [hL, hNL.out]
  subst hLN
  clear hv q1 q2 q4 q5 hn hro hrr kr hRES hNN hcell hL
  go_enter Try.func31, Try.ntmps31
  rw [HL.out]
  go_wp2_with fail
  refine HC.out.mono ?_
  rintro e w1 ⟨rfl, hd⟩
  have HD := Lib.hid hd
  have hs1 : w.heap.size ≤ w1.heap.size := by rw [HD.out.heap]; exact Nat.le_refl _
  have HB1 : Hid (Below w.heap.size w w1) := hd.below _
  clear hd
  go_wp2_with fail
  refine (HWI.out _).mono ?_
  rintro e w' ⟨rfl, rfl⟩
  obtain ⟨W3, hW3⟩ : ∃ W3, W3 = (w1.alloc (.cells (madeCells #[Value.int .i64 0] n) 2)).alloc (.cells #[] 2) := ⟨_, rfl⟩
  have hs3 : W3.heap.size = w1.heap.size + 2 := by rw [hW3]; simp
  have hb3 : Below w1.heap.size w1 W3 := by rw [hW3]; exact ((Below.refl _ _).alloc (Nat.le_refl _) _).alloc (by simp) _
  have hrow : RowI W3 w1.heap.size w1.heap.size n n (List.replicate n 0) := by
    rw [hW3]; exact (raise_row w1 n (by omega)).alloc _
  have hk0 : OwnI W3 (w1.heap.size + 1) W3.heap.size (.slice (some ⟨w1.heap.size + 1, 0, none⟩) 0 0) [] := by
    have := emptySlice (w1.alloc (.cells (madeCells #[Value.int .i64 0] n) 2))
    have e : (w1.alloc (.cells (madeCells #[Value.int .i64 0] n) 2)).heap.size = w1.heap.size + 1 := by simp
    rw [← hW3, e] at this
    exact this.mono (Nat.le_refl _) (by omega) (Nat.le_refl _)
  have HB3 : Hid (Below w.heap.size w W3) := HB1.out.trans (hb3.mono (by omega))
  have HROW3 := Lib.hid hrow
  have HK0 := Lib.hid hk0
  have HW3F := Lib.hid hW3
  have hs3' : w1.heap.size + 2 ≤ W3.heap.size := by omega
  clear hs3 hb3 hrow hk0 hW3
  go_wp2_with fail
  rw [← HW3F.out]
  obtain ⟨kb, hkb⟩ : ∃ kb, kb = w1.heap.size + 1 := ⟨_, rfl⟩
  obtain ⟨gb, hgb⟩ : ∃ gb, gb = w1.heap.size := ⟨_, rfl⟩
  have HROW3 : Hid (RowI W3 gb gb n n (List.replicate n 0)) := by rw [hgb]; exact HROW3.out
  have HK0 : Hid (OwnI W3 kb W3.heap.size (.slice (some ⟨kb, 0, none⟩) 0 0) []) := by rw [hkb]; exact HK0.out
  rw [← hkb, ← hgb]
  have o1 : w.heap.size ≤ gb := by omega
  have o2 : gb < kb := by omega
  have o3 : kb < W3.heap.size := by omega
  clear hkb hgb HW3F hs3' hs1
  go_loopw [9, 10, 11] (fun bv kv tv wr => ∃ (t : Nat) (best : Int) (kept P : List Int), t ≤ R + 1 ∧ tv = .int .i64 t ∧ bv = .int .i64 best ∧ Hid (raGo ws n (R + 1 - t) (decide (t = 0)) best kept P = RES) ∧ Hid (PrOk P n (22 * (t : Int))) ∧ Hid (RowI wr gb gb n n P) ∧ Hid (Same gb (gb + 1) W3 wr) ∧ Hid (OwnI wr kb wr.heap.size kv kept)) (fun _ _ tv _ => R + 1 - (intOf tv).toNat)
  case atStart => exact ⟨0, 0, [], List.replicate n 0, by omega, rfl, rfl, by rw [Hid, HRES.out]; rfl, ⟨by simp, fun x hx => by rw [List.eq_of_mem_replicate hx]; omega⟩, HROW3, Same.refl _ _ _, HK0⟩
  case round =>
    clear HROW3 HRES HK0
    obtain ⟨t, best, kept, P, ht, rfl, rfl, HG, HPR, HROW, HS, HO⟩ := hrel
    have hsr := HS.out.size
    by_cases htR : t ≤ R
    · obtain ⟨m, hm⟩ : ∃ m, R + 1 - t = m + 1 := ⟨R - t, by omega⟩
      have hmt : m + t = R := by omega
      have HG1 : Hid (raGo ws n (m + 1) (decide (t = 0)) best kept P = RES) := by rw [Hid, ← HG.out, hm]
      have hr1000 : PrOk P n 100000 := HPR.out.mono (by omega)
      have hwr := wayNow_rng HQ4.out HWS.out hr1000 (by omega)
      have HWR := Lib.hid hwr
      have HBR := Lib.hid (bound_rng h3 q3 hwr)
      have HSC : Hid (scoreP ws P n = (boundOf (wayOf (nowL ws P n) n) n).2 - 2 * sumP P n) := rfl
      have HNX : Hid (nextP ws P n = lessTo (bumps (boundOf (wayOf (nowL ws P n) n) n).1 P) n) := rfl
      have HPR1 : Hid (PrOk P n 1200) := HPR.out.mono (by omega)
      have hgl := HROW.out.lt
      obtain ⟨Wn, hWn⟩ : ∃ Wn, Wn = wr.alloc (.cells #[] 2) := ⟨_, rfl⟩
      have hsn : Wn.heap.size = wr.heap.size + 1 := by rw [hWn]; simp
      have HBn : Hid (Below wr.heap.size wr Wn) := by rw [hWn]; exact alloc_belowT _ _
      have HNW0 : Hid (OwnI Wn wr.heap.size Wn.heap.size (.slice (some ⟨wr.heap.size, 0, none⟩) 0 0) (nowTo ws P n 0)) := by
        have := emptySlice wr; rw [← hWn, ← hsn] at this; exact this
      have HWN := Lib.hid hWn
      have hsn' : wr.heap.size ≤ Wn.heap.size := by omega
      clear hr1000 hwr HG hm hWn hsn
      go_wp2_with fail
      rw [← HWN.out]
      obtain ⟨wo, hwo⟩ : ∃ wo : World, wo = wr := ⟨_, rfl⟩
      rw [← hwo] at HROW HS HO hsr hgl HBn HNW0 hsn' ⊢
      clear HWN hwo
      go_loopw [12, 13] (fun nv iv wr => ∃ i : Nat, i ≤ L ∧ iv = .int .i64 i ∧ Hid (OwnI wr wo.heap.size wr.heap.size nv (nowTo ws P n i)) ∧ Hid (Below wo.heap.size wo wr)) (fun _ iv _ => L - (intOf iv).toNat)
      case atStart => exact ⟨0, Nat.zero_le _, rfl, HNW0, HBn⟩
      case round =>
        clear HNW0 HBn
        obtain ⟨i, hi, rfl, HN, HBn⟩ := hrel
        have hsx := HBn.out.size
        by_cases hil : i < L
        · have hn0 : 0 < n := by omega
          have hdn : i / n < n := Nat.div_lt_of_lt_mul (by rw [← HNN.out]; exact hil)
          have hen : i % n < n := Nat.mod_lt i hn0
          have hdv : (i : Int).tdiv n = ((i / n : Nat) : Int) := by rw [Int.tdiv_eq_ediv_of_nonneg (by omega), ← Int.natCast_ediv]
          have hmd : (i : Int).tmod n = ((i % n : Nat) : Int) := by rw [Int.tmod_eq_emod_of_nonneg (by omega), ← Int.natCast_emod]
          have hdv2 : (i : Int) / (n : Int) = ((i / n : Nat) : Int) := by rw [← Int.natCast_ediv]
          have hmd2 : (i : Int) % (n : Int) = ((i % n : Nat) : Int) := by rw [← Int.natCast_emod]
          have HNS : Hid (nowTo ws P n (i + 1) = nowTo ws P n i ++ [ws.getD i 0 + P.getD (i / n) 0 + P.getD (i % n) 0]) := nowTo_succ ws P n i
          have hrw := HROW.out.below HBn.out hgl
          have c2 := hrw.cell hdn
          have c3 := hrw.cell hen
          have c1 : wr.cell? ⟨b, off + i, none⟩ = some (.int .i64 (ws.getD i 0)) := by
            rw [((HB3.out.trans (HS.out.below (B := w.heap.size) (by omega) (by omega))).trans (HBn.out.mono (by omega))).cell (p := ⟨b, off + i, none⟩) (show b < w.heap.size by omega)]
            exact HCELL.out i (by rw [← HL.out]; exact hil)
          have r1 := HWS.out _ (getD_memI (show i < ws.length by rw [← HL.out]; exact hil))
          have r2 := HPR1.out.getD hdn
          have r3 := HPR1.out.getD hen
          have hnl := nowTo_len ws P n i
          obtain ⟨d, hd⟩ : ∃ d, d = i / n := ⟨_, rfl⟩
          obtain ⟨e, he⟩ : ∃ e, e = i % n := ⟨_, rfl⟩
          rw [← hd] at hdn hdv hdv2 HNS c2 r2
          rw [← he] at hen hmd hmd2 HNS c3 r3
          obtain ⟨x, hx⟩ : ∃ x, x = ws.getD i 0 := ⟨_, rfl⟩
          obtain ⟨y, hy⟩ : ∃ y, y = P.getD d 0 := ⟨_, rfl⟩
          obtain ⟨z, hz⟩ : ∃ z, z = P.getD e 0 := ⟨_, rfl⟩
          rw [← hx] at HNS c1 r1
          rw [← hy] at HNS c2 r2
          rw [← hz] at HNS c3 r3
          have HIX : Hid (I64 (x + y + z)) := by rw [Hid]; unfold I64; omega
          have v1 : IntKind.i64.wrap (x + y) = x + y := IntWalk.i64_in _ (by omega)
          have v2 : IntKind.i64.wrap (x + y + z) = x + y + z := IntWalk.i64_in _ (by omega)
          have v3 := wrap_nat (q := d) (by omega)
          have v4 := wrap_nat (q := e) (by omega)
          have z1 : (i : Int) < (ws.length : Int) := by rw [← HL.out]; omega
          have z2 : (0 : Int) ≤ (i : Int) := by omega
          have z3 : (d : Int) < (n : Int) := by omega
          have z4 : (0 : Int) ≤ (d : Int) := by omega
          have z5 : (e : Int) < (n : Int) := by omega
          have z6 : (0 : Int) ≤ (e : Int) := by omega
          have n1 : ¬ n = 0 := by omega
          have n2 : ¬ (n : Int) = 0 := by omega
          obtain ⟨na, nc, rfl⟩ := HN.out.shape2
          have hA1 : Drew (wr.alloc (.cells #[.int .i64 (x + y + z)] 2)) (wr.alloc (.cells #[.int .i64 (x + y + z)] 2)).drew := ⟨1, rfl⟩
          have hD1 : Drew wr wr.drew := ⟨1, rfl⟩
          have hA0 : Below wo.heap.size wo (wr.alloc (.cells #[.int .i64 (x + y + z)] 2)) := HBn.out.trans ((alloc_belowT wr _).mono hsx)
          have HBa : Hid (Below wo.heap.size wo wr.drew) := HBn.out.trans (hD1.below _)
          have HBb : Hid (Below wo.heap.size wo (wr.alloc (.cells #[.int .i64 (x + y + z)] 2)).drew) := hA0.trans (hA1.below _)
          have HBc : Hid (Below wo.heap.size wo (wr.alloc (.cells #[.int .i64 (x + y + z)] 2))) := hA0
          have HEA : Hid (OwnI (wr.alloc (.cells #[.int .i64 (x + y + z)] 2)).drew wo.heap.size wr.heap.size (.slice na (nowTo ws P n i).length nc) (nowTo ws P n i)) := (HN.out.alloc _).drew hA1
          have HXA : Hid (Ints (wr.alloc (.cells #[.int .i64 (x + y + z)] 2)).drew wr.heap.size (wr.heap.size + 1) (.slice (some ⟨wr.heap.size, 0, none⟩) 1 1) [x + y + z]) := (oneSliceW wr (x + y + z) HIX.out).rd.drew hA1
          have HLN : Hid ((nowTo ws P n i).length + [x + y + z].length ≤ 1099511627776) := by rw [Hid, hnl]; simp; omega
          have HLO : Hid (wo.heap.size ≤ (wr.alloc (.cells #[.int .i64 (x + y + z)] 2)).drew.heap.size) := hA0.size
          have HKEEP : Hid (∀ wx, Below wo.heap.size wo wx → wx.cell? ⟨b, off + i, none⟩ = some (.int .i64 x) ∧ wx.cell? ⟨gb, d, none⟩ = some (.int .i64 y) ∧ wx.cell? ⟨gb, e, none⟩ = some (.int .i64 z)) := fun wx hb => by
            have hbw : b < wo.heap.size := by omega
            rw [HBn.out.cell (p := ⟨b, off + i, none⟩) hbw] at c1
            rw [HBn.out.cell (p := ⟨gb, d, none⟩) hgl] at c2
            rw [HBn.out.cell (p := ⟨gb, e, none⟩) hgl] at c3
            rw [hb.cell (p := ⟨b, off + i, none⟩) hbw, hb.cell (p := ⟨gb, d, none⟩) hgl, hb.cell (p := ⟨gb, e, none⟩) hgl]
            exact ⟨c1, c2, c3⟩
          clear hd he hx hy hz r1 r2 r3 hrw hD1 hA1 hA0 hnl
          go_wp2_with fail
          go_region_held3 (fun w' => w'.cell? ⟨b, off + i, none⟩ = some (.int .i64 x) ∧ w'.cell? ⟨gb, d, none⟩ = some (.int .i64 y) ∧ w'.cell? ⟨gb, e, none⟩ = some (.int .i64 z)) (first | exact HKEEP.out _ HBa.out | exact HKEEP.out _ HBb.out | exact HKEEP.out _ HBc.out | exact HKEEP.out _ HB5.out) (first | ((refine step_appIs (by rfl) _ _ (by rfl) _ (nowTo ws P n i) (by first | (simp [Act.eval]; done) | (simp [Act.eval, Act.put]; done)) HEA.out _ [x + y + z] (by first | (simp [Act.eval]; done) | (simp [Act.eval, Act.put]; done)) HXA.out HLN.out HLO.out ?_; intro v5 w5 ho5 hsm5 hz5 _; have HB5 := Lib.hid (HBb.out.trans (hsm5.below (Nat.le_refl _) HLO.out)))))
          have HO5 : Hid (OwnI w5 wo.heap.size w5.heap.size v5 (nowTo ws P n (i + 1))) := by rw [Hid, HNS.out]; exact ho5
          clear v1 v2 v3 v4 hdv hmd hdv2 hmd2 c1 c2 c3
          clear ho5 hsm5 hz5
          go_wp2
          go_roundw
          case rel => exact ⟨i + 1, by omega, by go_num, HO5, HB5⟩
          case measure => (simp [intOf]; try omega)
        · obtain rfl : i = L := by omega
          obtain ⟨na, nc, rfl⟩ := HN.out.shape2
          have HNE : Hid (nowL ws P n = nowTo ws P n i) := by rw [Hid, nowL, ← HNN.out]
          have HNF : Hid (OwnI wr wo.heap.size wr.heap.size (.slice na (nowTo ws P n i).length nc) (nowL ws P n)) := by rw [Hid, HNE.out]; exact HN.out
          have HLB := Lib.hid (l04Bound_any _ (nowL ws P n) n wr HNF.out.rd (Nat.le_refl _) (by rw [nowL, nowTo_len]) h3 q3 HWR.out)
          have hbr := HBR.out
          obtain ⟨E, hE⟩ : ∃ E, E = (boundOf (wayOf (nowL ws P n) n) n).1 := ⟨_, rfl⟩
          obtain ⟨T, hT⟩ : ∃ T, T = (boundOf (wayOf (nowL ws P n) n) n).2 := ⟨_, rfl⟩
          rw [← hE] at hbr HLB HNX
          rw [← hT] at hbr HLB HSC
          obtain ⟨be1, be2, be3, be4⟩ := hbr
          have HEC := Lib.hid be1
          have HEL := Lib.hid be2
          have HPS := Lib.hid (fun k (hk : k ≤ n) => sumP_rng HPR1.out (by omega) k hk)
          have HPL := Lib.hid HPR1.out.1
          have HROWr := Lib.hid (HROW.out.below HBn.out hgl)
          have HSr := Lib.hid (HS.out.trans (Same.of_below (lo := gb) (hi := gb + 1) HBn.out (Nat.le_refl _)))
          have HOr := Lib.hid ((HO.out.below HBn.out (Nat.le_refl _)).mono (Nat.le_refl _) hsx (Nat.le_refl _))
          have hgl2 : gb < wr.heap.size := by omega
          clear hE hT be1 be2 HBR HN HWR HO HROW HS
          go_wp2_with fail
          refine HLB.out.mono ?_
          rintro e w4 ⟨u, rfl, ho4, hb4⟩
          have HE4 := Lib.hid ho4
          have hs4 := hb4.size
          have HS4 := Lib.hid (HSr.out.trans (Same.of_below (lo := gb) (hi := gb + 1) hb4 (Nat.le_refl _)))
          have HR4 := Lib.hid (HROWr.out.below hb4 hgl2)
          have HO4 := Lib.hid ((HOr.out.below hb4 (Nat.le_refl _)).mono (Nat.le_refl _) hs4 (Nat.le_refl _))
          obtain ⟨ea, ec, rfl⟩ := HE4.out.shape2
          have hgw4 : gb < w4.heap.size := HR4.out.lt
          have hew : gb < wr.heap.size := hgl2
          have HPS0 : Hid (T - 2 * sumP P 0 = T) := by simp [Hid, sumP]
          clear ho4 hb4 HLB HSr HROWr HOr HNF
          go_wp2_with fail
          go_loop [15, 16] (fun bv iv => ∃ i : Nat, i ≤ n ∧ iv = .int .i64 i ∧ bv = .int .i64 (T - 2 * sumP P i)) (fun _ iv => n - (intOf iv).toNat)
          case atStart => exact ⟨0, Nat.zero_le _, rfl, by rw [HPS0.out]⟩
          case round =>
            clear HPS0
            obtain ⟨i, hi, rfl, rfl⟩ := hrel
            have hps := HPS.out i hi
            by_cases hin : i < n
            · have hcp := HR4.out.cell hin
              have hpr := HPR1.out.getD hin
              have HSS := Lib.hid (sumP_succ (P := P) (k := i) (by rw [HPL.out]; exact hin))
              obtain ⟨x, hx⟩ : ∃ x, x = P.getD i 0 := ⟨_, rfl⟩
              obtain ⟨s, hs⟩ : ∃ s, s = sumP P i := ⟨_, rfl⟩
              rw [← hx] at hcp hpr HSS
              rw [← hs] at hps HSS ⊢
              have x1 := hpr.1
              have x2 := hpr.2
              have s1 : -12000 ≤ s := by omega
              have s2 : s ≤ 12000 := by omega
              clear hx hs hpr hps
              go_wp2
              go_round
              case rel => exact ⟨i + 1, by omega, by go_num, by rw [HSS.out]; congr 1; omega⟩
              case measure => (simp [intOf]; try omega)
            · obtain rfl : n = i := by omega
              obtain ⟨sc, hsc⟩ : ∃ sc, sc = T - 2 * sumP P n := ⟨_, rfl⟩
              have HSC2 : Hid (scoreP ws P n = sc) := by rw [Hid, HSC.out, hsc]
              have hsc1 : -100000000 ≤ sc := by omega
              have hsc2 : sc ≤ 100000000 := by omega
              rw [← hsc]
              clear hsc HSC hps
              have HYES : Hid (decide (t = 0) = true ∨ sc > best → raGo ws n m false sc P (nextP ws P n) = RES) := fun h' => by rw [← HG1.out, raGo_yes (by rw [HSC2.out]; exact h'), HSC2.out]
              have HNO : Hid (¬ (decide (t = 0) = true ∨ sc > best) → raGo ws n m false best kept (nextP ws P n) = RES) := fun h' => by rw [← HG1.out, raGo_no (by rw [HSC2.out]; exact h')]
              have hEl : E.length ≤ 20 := by have := HEL.out; omega
              have HRDA : Hid (Ints (w4.alloc (.cells #[] 2)) gb w4.heap.size (.slice (some ⟨gb, 0, none⟩) n n) P) := (HR4.out.rd (hi := w4.heap.size) (fun x hx => by have := HPR1.out.2 x hx; unfold I64; omega) hgw4 (Nat.le_refl _)).below (alloc_belowT w4 _) (Nat.le_refl _)
              have HK0 := Lib.hid (emptySlice w4)
              have HAB := Lib.hid (alloc_belowT w4 (.cells #[] 2))
              have HLK : Hid (w4.heap.size ≤ (w4.alloc (.cells #[] 2)).heap.size) := by rw [Hid]; simp
              have hPl : P.length ≤ 10 := by rw [HPL.out]; exact q3
              rcases Nat.eq_zero_or_pos t with ht0 | ht0
              have HN := Lib.hid (HYES.out (.inl (by simpa using ht0)))
              have HT0 := Lib.hid ht0
              clear HYES HNO HG1
              rotate_left
              have e3 : ¬ t = 0 := by omega
              have e4 : ¬ (t : Int) = 0 := by omega
              have e1 : ((t : Int) == 0) = false := by simp; omega
              have e2 : (t == 0) = false := by simp; omega
              by_cases hsb : sc > best
              have HN := Lib.hid (HYES.out (.inr hsb))
              have hsb2 : best < sc := hsb
              clear HYES HNO HG1
              rotate_left
              have HN := Lib.hid (HNO.out (by rintro (h' | h'); have := of_decide_eq_true h'; omega; exact absurd h' (by omega)))
              have hsb2 : ¬ best < sc := by omega
              have hsbd : decide (sc > best) = false := decide_eq_false (by omega)
              have hsbd2 : decide (best < sc) = false := decide_eq_false (by omega)
              have e7 : ¬ (((t : Int) == 0) = true ∨ best < sc) := by rw [e1]; simp; omega
              clear HYES HNO HG1
              rotate_left
              go_upto_region 23 with (at_builtin; refine wpList_appIs rfl _ _ rfl _ [] rfl HK0.out _ P rfl HRDA.out (by simp; omega) HLK.out ?_)
              intro v5 w5 ho5 hsm5 hz5 _
              have ho5 : OwnI w5 w4.heap.size w5.heap.size v5 P := by simpa using ho5
              have HB5 : Hid (Below w4.heap.size w4 w5) := HAB.out.trans (hsm5.below (Nat.le_refl _) HLK.out)
              have HO5 := Lib.hid (ho5.mono (show kb ≤ w4.heap.size by omega) (Nat.le_refl _) (Nat.le_refl _))
              clear ho5 hsm5 hz5
              clear ht0
              rotate_left
              intro v5 w5 ho5 hsm5 hz5 _
              have ho5 : OwnI w5 w4.heap.size w5.heap.size v5 P := by simpa using ho5
              have HB5 : Hid (Below w4.heap.size w4 w5) := HAB.out.trans (hsm5.below (Nat.le_refl _) HLK.out)
              have HO5 := Lib.hid (ho5.mono (show kb ≤ w4.heap.size by omega) (Nat.le_refl _) (Nat.le_refl _))
              clear ho5 hsm5 hz5
              clear e1 e2 e3 e4 ht0 hsb2
              rotate_left
              obtain ⟨w5, hw5⟩ : ∃ w5 : World, w5 = w4 := ⟨_, rfl⟩
              have HB5 : Hid (Below w4.heap.size w4 w5) := by rw [hw5]; exact Below.refl _ _
              have HO5 := HO4
              rw [← hw5] at HO5 ⊢
              clear hw5 e1 e2 e3 e4 e7 hsb2 hsbd hsbd2 ht0
              rotate_left
              all_goals
                have hs5 := HB5.out.size
                have HS5 := Lib.hid (HS4.out.trans (Same.of_below (lo := gb) (hi := gb + 1) HB5.out (Nat.le_refl _)))
                have HR5 := Lib.hid (HR4.out.below HB5.out hgw4)
                have HE5 := Lib.hid ((HE4.out.below HB5.out (Nat.le_refl _)).mono (Nat.le_refl _) hs5 (Nat.le_refl _))
                rcases HE5.out.rowOf with ⟨_, h0⟩ | ⟨eb, ec', e1, _, e2, e3, HER⟩
                · exfalso; have := HEL.out; rw [h0] at this; simp at this; omega
                obtain ⟨rfl, rfl⟩ : ea = some ⟨eb, 0, none⟩ ∧ ec = ec' := by simp at e1; exact e1
                have hege := HER.ge
                have hegb : eb ≠ gb := by have := hew; omega
                have HEGB := Lib.hid hegb
                have HB0' : Hid (bumps (E.drop 0) P = bumps E P) := by rw [Hid, List.drop_zero]
                have HERo := Lib.hid HER
                have HEC2 : Hid (∀ (k : Nat) (hk : k < E.length), ∃ c : Nat, E[k] = (c : Int) ∧ c < n ∧ E.getD k 0 = (c : Int)) := fun k hk => by
                  have := HEC.out E[k] (List.getElem_mem hk)
                  exact ⟨E[k].toNat, by omega, by omega, by simp [List.getD, hk]; omega⟩
                have HPR2 : Hid (PrOk P n (22 * (t : Int))) := HPR
                have HBM : Hid (PrOk (bumps E P) n (22 * (t : Int) + 20)) := (bumps_ok E P _ HPR.out HEC.out).mono (by omega)
                have htb : (t : Int) ≤ 50 := by omega
                clear HER e1 e2 e3 hegb hege HE5 HE4 HB5 HS4 HR4 HO4 HSC2 HEL HPR HEC hs4 HRDA HK0 HAB HLK
                go_wp2_with fail
                go_loopw [17] (fun kv wr => ∃ (k : Nat) (Pk : List Int), k ≤ E.length ∧ kv = .int .i64 k ∧ Hid (bumps (E.drop k) Pk = bumps E P) ∧ Hid (PrOk Pk n (22 * (t : Int) + k)) ∧ Hid (RowI wr gb gb n n Pk) ∧ Hid (Same gb (gb + 1) w5 wr)) (fun kv _ => E.length - (intOf kv).toNat)
                case atStart => exact ⟨0, P, Nat.zero_le _, rfl, HB0', by simpa using HPR2, HR5, Same.refl _ _ _⟩
                case round =>
                  clear HR5 HB0' HPR2
                  obtain ⟨k, Pk, hk, rfl, HBK, HPK, HRK, HSK⟩ := hrel
                  have hsk := HSK.out.size
                  by_cases hkE : k < E.length
                  · obtain ⟨c, hc1', hc2', hc3'⟩ := HEC2.out k hkE
                    have HBD := Lib.hid (bumps_drop hkE Pk)
                    have hce := (HERo.out.keep (HSK.out.block eb HERo.out.lt (by have := HEGB.out; omega))).cell hkE
                    rw [hc3'] at hce
                    rw [hc1'] at HBD
                    have hcp := HRK.out.cell hc2'
                    have hfp := HRK.out.frozen c
                    have hpr := HPK.out.getD hc2'
                    have HBP : Hid (bump Pk (c : Int) = Pk.set c (Pk.getD c 0 + 1)) := by rw [Hid, bump, Int.toNat_natCast]
                    have HPB : Hid (PrOk (bump Pk (c : Int)) n (22 * (t : Int) + ((k + 1 : Nat) : Int))) := (bump_ok HPK.out (c := (c : Int)) (by omega) (by omega)).mono (by omega)
                    obtain ⟨x, hx⟩ : ∃ x, x = Pk.getD c 0 := ⟨_, rfl⟩
                    rw [← hx] at hcp hpr HBP
                    have x1 := hpr.1
                    have x2 := hpr.2
                    have z1 : (c : Int) < (n : Int) := by omega
                    clear hc1' hc3' hx hpr
                    go_wp2_with fail
                    have HRW : Hid (∀ (u : Int), RowI (wr.setCell ⟨gb, c, none⟩ (.int .i64 u)) gb gb n n (Pk.set c u)) := fun u => HRK.out.stored c u
                    have HSW : Hid (∀ (u : Int), Same gb (gb + 1) w5 (wr.setCell ⟨gb, c, none⟩ (.int .i64 u))) := fun u => HSK.out.setCell (show gb ≤ gb by omega) (show gb < gb + 1 by omega) _
                    go_roundw
                    case rel => exact ⟨k + 1, bump Pk (c : Int), by omega, by go_num, by rw [Hid, ← HBK.out, HBD.out], HPB, by rw [HBP.out]; exact HRW.out _, HSW.out _⟩
                    case measure => (simp [intOf]; try omega)
                  · obtain rfl : k = E.length := by omega
                    have HPE : Hid (Pk = bumps E P) := by rw [Hid, ← HBK.out, List.drop_length]; rfl
                    have HRQ : Hid (RowI wr gb gb n n (lessTo (bumps E P) 0)) := by rw [Hid, lessTo_zero, ← HPE.out]; exact HRK.out
                    obtain ⟨w6, hw6⟩ : ∃ w6 : World, w6 = wr := ⟨_, rfl⟩
                    rw [← hw6] at HRQ HSK ⊢
                    obtain ⟨Q, hQ⟩ : ∃ Q, Q = bumps E P := ⟨_, rfl⟩
                    rw [← hQ] at HRQ HBM HNX
                    have HQl := Lib.hid HBM.out.1
                    clear hw6 HPE HBK HPK HRK hQ
                    go_wp2_with fail
                    go_loopw [18] (fun iv wr => ∃ (i : Nat), i ≤ n ∧ iv = .int .i64 i ∧ Hid (RowI wr gb gb n n (lessTo Q i)) ∧ Hid (Same gb (gb + 1) w5 wr)) (fun iv _ => n - (intOf iv).toNat)
                    case atStart => exact ⟨0, Nat.zero_le _, rfl, HRQ, HSK⟩
                    case round =>
                      clear HRQ HSK
                      obtain ⟨i, hi, rfl, HRK, HSK⟩ := hrel
                      by_cases hin : i < n
                      · have hcp := HRK.out.cell hin
                        rw [lessTo_getD Q i (by rw [HQl.out]; exact hin)] at hcp
                        have hfp := HRK.out.frozen i
                        have hpr := HBM.out.getD hin
                        have HLS := Lib.hid (lessTo_succ Q i (by rw [HQl.out]; exact hin))
                        obtain ⟨x, hx⟩ : ∃ x, x = Q.getD i 0 := ⟨_, rfl⟩
                        rw [← hx] at hcp hpr HLS
                        have x1 := hpr.1
                        have x2 := hpr.2
                        clear hx hpr
                        have HRW : Hid (∀ (u : Int), RowI (wr.setCell ⟨gb, i, none⟩ (.int .i64 u)) gb gb n n ((lessTo Q i).set i u)) := fun u => HRK.out.stored i u
                        have HSW : Hid (∀ (u : Int), Same gb (gb + 1) w5 (wr.setCell ⟨gb, i, none⟩ (.int .i64 u))) := fun u => HSK.out.setCell (show gb ≤ gb by omega) (show gb < gb + 1 by omega) _
                        go_wp2_with fail
                        go_roundw
                        case rel => exact ⟨i + 1, by omega, by go_num, by rw [← HLS.out]; exact HRW.out _, HSW.out _⟩
                        case measure => (simp [intOf]; try omega)
                      · obtain rfl : i = n := by omega
                        have HRN : Hid (RowI wr gb gb i i (nextP ws P i)) := by rw [Hid, HNX.out]; exact HRK.out
                        have HSN := Lib.hid (HS5.out.trans HSK.out)
                        have HPN : Hid (PrOk (nextP ws P i) i (22 * ((t + 1 : Nat) : Int))) := by rw [Hid, HNX.out]; exact (less_ok HBM.out).mono (by omega)
                        have HON := Lib.hid ((HO5.out.same HSK.out (.inr (by omega))).mono (Nat.le_refl _) HSK.out.size (Nat.le_refl _))
                        have HMN : Hid (R + 1 - (t + 1) = m) := by rw [Hid]; omega
                        have HDC : Hid (decide (t + 1 = 0) = false) := by simp [Hid]
                        have HGN : Hid (_ = RES) := HN
                        go_wp2
                        go_roundw
                        case rel => exact ⟨t + 1, _, _, nextP ws P i, by omega, by first | (go_num; done) | (rw [HT0.out]; rfl), rfl, by rw [Hid, HMN.out, HDC.out]; exact HGN.out, HPN, HRN, HSN, HON⟩
                        case measure => first | (simp [intOf]; omega) | (have h0 := HT0.out; simp [intOf]; omega)
    · obtain rfl : t = R + 1 := by omega
      have HRE : Hid (RES = (best, kept)) := by rw [Hid, ← HG.out, Nat.sub_self]; rfl
      go_wp2
      go_ret3
      exact ⟨_, by rw [HE.out, HRE.out]; rfl, by rw [HE.out, HRE.out]; exact HO.out.mono (by omega) (Nat.le_refl _) (Nat.le_refl _), HB3.out.trans (HS.out.below (by omega) (by omega))⟩
end Go.Proofs.Yteoikfddebbakaa
