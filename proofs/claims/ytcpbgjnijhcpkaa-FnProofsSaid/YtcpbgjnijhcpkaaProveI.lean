/-
  ProveNo: the program's prove (written by wip/gen/provei.py: the tail of the walk stands twice).
-/
import Derived.Test.YtcpbgjnijhcpkaaProveA
import Derived.Test.YtcpbgjnijhcpkaaUnitI
import Derived.Test.YtcpbgjnijhcpkaaByLetter
import Derived.Test.YtcpbgjnijhcpkaaProof
import Derived.Test.YtcpbgjnijhcpkaaCopy
import Derived.Deep.DeepCutAuto
namespace Go.Proofs.Ytcpbgjnijhcpkaa
open Go.RowKit
set_option linter.unusedVariables false
set_option maxRecDepth 100000

/-- how far the two cases have come -/
def proveAt (L : Nat) (cs : List (List Int)) (n a : Nat) (d : List Int) (P : List (List Int)) : Nat → List (List Int) → Prop
  | 0, P1 => P1 = P
  | 1, P1 => proveGo L cs n (d ++ [-(a : Int)]) P = some P1
  | _, P2 => ∃ P1, proveGo L cs n (d ++ [-(a : Int)]) P = some P1 ∧ proveGo L cs n (d ++ [(a : Int)]) P1 = some P2
theorem KeepB.cell {w w' : World} {v : Value} {p : Addr} (h : KeepB w w' v) (hp : p.block < w.heap.size) (hn : v.ownBlock ≠ some p.block) : w'.cell? p = w.cell? p := by
  simp only [World.cell?, h.block p.block hp hn]
theorem KeepB.box {w w' : World} {v : Value} {b : Nat} {L : Int} {u : Value} (h : KeepB w w' v) (hb : BoxF w b L u) (hn : v.ownBlock ≠ some b) : BoxF w' b L u :=
  ⟨by rw [h.cell (p := ⟨b, 0, none⟩) hb.lt hn]; exact hb.c0, by rw [h.cell (p := ⟨b, 1, none⟩) hb.lt hn]; exact hb.c1, Nat.lt_of_lt_of_le hb.lt h.size⟩
/-- what a round leaves -/
def RoundPost (L : Nat) (cs : List (List Int)) (n a : Nat) (d : List Int) (P : List (List Int)) (k lo : Nat) (v : Value) (w : World) (r : Value) (b : Bool) (w' : World) : Prop :=
  KeepB w w' v ∧ ((b = false ∧ proveGo L cs (n + 1) d P = none) ∨ ∃ P', b = true ∧ proveAt L cs n a d P (k + 1) P' ∧ OwnII w' lo w'.heap.size r P' ∧ BlkOk w v r)
set_option maxHeartbeats 2000000 in
set_option maxRecDepth 100000 in
theorem prove_any (n : Nat) : ∀ (w : World) {l h l' h' : Nat} (L : Nat) (cv vd v : Value) (cs : List (List Int)) (d : List Int) (P : List (List Int)) {lo : Nat}
    (hv : Intss w l h cv cs) (hh : h ≤ lo) (hz : SmallII cs) (hcl : ∀ c ∈ cs, ∀ x ∈ c, isLit (L : Int) x = true)
    (hd : Ints w l' h' vd d) (hh' : h' ≤ w.heap.size) (hdv : ∀ p, v.ownBlock = some p → p < l' ∨ h' ≤ p) (hcd : Cons (L : Int) d) (ho : OwnII w lo w.heap.size v P) (hlo : lo ≤ w.heap.size) (hPl : P.length ≤ 128) (hPs : (P.map List.length).sum ≤ 10 * P.length) (hL : L ≤ 10) (hfuel : 11 ≤ n + d.length),
    Calls Try.prog 56 #[.agg #[.int .i64 L, cv], vd, v] w (ProvePost L cs n d P lo v w) := by
  induction n with
  | zero =>
    intro w l h l' h' L cv vd v cs d P lo hv hh hz hcl hd hh' hdv hcd ho hlo hPl hPs hL hfuel
    have := hcd.len (by omega)
    omega
  | succ n ih =>
    intro w l h l' h' L cv vd v cs d P lo hv hh hz hcl hd hh' hdv hcd ho hlo hPl hPs hL hfuel
    have hL10 : (L : Int) ≤ 10 := by omega
    have hd10 := hcd.len hL10
    have HIH := Lib.hid ih
    clear ih
    obtain ⟨da, dc, hde, dc1, dc2, _⟩ := hd.out
    subst hde
    obtain ⟨pa, pc, hpe⟩ := ho.shape
    subst hpe
    have hgb := ho.ge
    obtain ⟨ca, cc, CV, hce, _, _, _, _⟩ := hv.out
    subst hce
    obtain ⟨W, hW⟩ : ∃ W, W = w.alloc (.cells #[.int .i64 L, .slice ca cs.length cc] 26) := ⟨_, rfl⟩
    have hBW : Below w.heap.size w W := by rw [hW]; exact alloc_below _ _
    have hsW : W.heap.size = w.heap.size + 1 := by rw [hW]; simp
    have hbx : BoxF W w.heap.size L (.slice ca cs.length cc) := by rw [hW]; exact BoxF.new _ _ _ _
    have HUN := Lib.hid (unitsOf_any W (L : Int) _ _ cs d hL10 (hv.below hBW (by omega)) (by omega) hz hcl (hd.below hBW hh') (by omega) hcd)
    have HUO := Lib.hid (unitsF_ok (g := d) hL10 hcl hcd)
    have HFC : Hid (freeOf L (unitsF cs d).known ≤ L → Cons (L : Int) (d ++ [-(freeOf L (unitsF cs d).known : Int)]) ∧ Cons (L : Int) (d ++ [(freeOf L (unitsF cs d).known : Int)])) := fun hf => free_cons hcd hf
    have HW1 : Hid (¬ (unitsF cs d).wrong < 0 → proveGo L cs (n + 1) d P = if P.length < 128 then some (P ++ [clauseOf d]) else none) := fun h => prove_wrong h
    have HFU : Hid ((unitsF cs d).wrong < 0 → ¬ freeOf L (unitsF cs d).known ≤ L → proveGo L cs (n + 1) d P = none) := fun h1 h2 => prove_full h1 h2
    have HON : Hid ((unitsF cs d).wrong < 0 → freeOf L (unitsF cs d).known ≤ L → proveGo L cs n (d ++ [-(freeOf L (unitsF cs d).known : Int)]) P = none → proveGo L cs (n + 1) d P = none) := fun h1 h2 h3 => prove_one h1 h2 h3
    have HTW : Hid (∀ P1, (unitsF cs d).wrong < 0 → freeOf L (unitsF cs d).known ≤ L → proveGo L cs n (d ++ [-(freeOf L (unitsF cs d).known : Int)]) P = some P1 → proveGo L cs n (d ++ [(freeOf L (unitsF cs d).known : Int)]) P1 = none → proveGo L cs (n + 1) d P = none) := fun P1 h1 h2 h3 h4 => prove_two h1 h2 h3 h4
    have HTH : Hid (∀ P1 P2, (unitsF cs d).wrong < 0 → freeOf L (unitsF cs d).known ≤ L → proveGo L cs n (d ++ [-(freeOf L (unitsF cs d).known : Int)]) P = some P1 → proveGo L cs n (d ++ [(freeOf L (unitsF cs d).known : Int)]) P1 = some P2 → proveGo L cs (n + 1) d P = if P2.length < 128 then some (P2 ++ [clauseOf d]) else none) := fun P1 P2 h1 h2 h3 h4 => prove_three h1 h2 h3 h4
    have HFR : Hid (freeFrom L (unitsF cs d).known (L + 1 - 1) 1 = freeOf L (unitsF cs d).known) := by rw [Hid, show L + 1 - 1 = L by omega]; rfl
    obtain ⟨U, hU⟩ : ∃ U, U = unitsF cs d := ⟨_, rfl⟩
    rw [← hU] at HUN HUO HFC HW1 HFU HON HTW HTH HFR
    have HD := Lib.hid hd
    have HDV := Lib.hid hdv
    have HCD := Lib.hid hcd
    have HO := Lib.hid ho
    have HV := Lib.hid hv
    have HGB := Lib.hid hgb
    have HZ := Lib.hid hz
    have HCL := Lib.hid hcl
    have HPS := Lib.hid hPs
    have HDR : Hid (∀ x ∈ d, -10 ≤ x ∧ x ≤ 10) := fun x hx => ⟨(hcd.rng hL10 hx).2.1, (hcd.rng hL10 hx).2.2⟩
    have HNR : Hid (∀ x ∈ negs d, -10 ≤ x ∧ x ≤ 10) := fun x hx => ⟨((cons_negs hcd).rng hL10 hx).2.1, ((cons_negs hcd).rng hL10 hx).2.2⟩
    have HIC : Hid (insUp ltL (negs d).length (negs d) = clauseOf d) := insUp_clause hcd
    have HB := Lib.hid hbx
    have HBW := Lib.hid hBW
    have k1 := hbx.c1
    have hWlt : w.heap.size < W.heap.size := by omega
    clear hU hd hdv hcd ho hv hgb hz hcl hPs hbx hBW hsW
    go_enter Try.func56, Try.ntmps56
    go_wp2_with fail
    rw [← hW]
    clear hW
    go_wp2_with fail
    refine HUN.out.mono ?_
    rintro e w1 ⟨vk, vb, rfl, hok, hob, hb1⟩
    obtain ⟨va, vc, rfl⟩ := hok.shape
    obtain ⟨ba, bc, rfl⟩ := hob.shape
    have hs1 := hb1.size
    have hbW : Below w1.heap.size w1 (w1.alloc (.cells #[.slice va U.known.length vc, .slice ba U.why.length bc, .int .i64 U.wrong] 71)) := alloc_below _ _
    have t2 : (w1.alloc (.cells #[.slice va U.known.length vc, .slice ba U.why.length bc, .int .i64 U.wrong] 71)).cell? ⟨w1.heap.size, 2, none⟩ = some (.int .i64 U.wrong) := (TriC.new _ _ _ _ _).c2
    obtain ⟨W1, hW1⟩ : ∃ W, W = w1.alloc (.cells #[.slice va U.known.length vc, .slice ba U.why.length bc, .int .i64 U.wrong] 71) := ⟨_, rfl⟩
    have HT : Hid (TriC W1 w1.heap.size 71 (.slice va U.known.length vc) (.slice ba U.why.length bc) (.int .i64 U.wrong)) := by rw [Hid, hW1]; exact TriC.new _ _ _ _ _
    rw [← hW1] at hbW t2
    have HB1 : Hid (BoxF W1 w.heap.size L (.slice ca cs.length cc)) := (HB.out.below hb1 hWlt).below hbW (by omega)
    have HBW1 : Hid (Below w.heap.size w W1) := (HBW.out.trans (hb1.mono (by omega))).trans (hbW.mono (by omega))
    have hsW := hbW.size
    have hsW' : w.heap.size < W1.heap.size := by omega
    have HKN := Lib.hid (hok.rd.below hbW (Nat.le_refl _))
    have HKI : Hid (∀ j : Nat, L < j → (hasI U.known (j : Int) || hasI U.known (-(j : Int))) = false) := fun j hj => by
      rw [Bool.or_eq_false_iff, hasI_false, hasI_false]
      exact ⟨fun hm => by have := isLit_iff.1 (HUO.out.cons.1 _ hm); omega, fun hm => by have := isLit_iff.1 (HUO.out.cons.1 _ hm); omega⟩
    have HW1e := Lib.hid hW1
    have hw1 : w1.heap.size < W1.heap.size := HT.out.lt
    clear hok hob hb1 hbW hW1 k1
    by_cases hwr : U.wrong < 0
    · have hwd : decide (U.wrong < 0) = true := by simpa using hwr
      have HWR := Lib.hid hwr
      rw [HW1e.out] at t2
      go_wp2_with fail
      rw [← HW1e.out]
      clear t2
      go_loop [9] (fun av => ∃ a : Nat, 1 ≤ a ∧ a ≤ L + 1 ∧ av = .int .i64 a ∧ Hid (freeFrom L U.known (L + 1 - a) a = freeOf L U.known)) (fun av => L + 1 - (intOf av).toNat)
      case atStart => exact ⟨1, Nat.le_refl _, by omega, rfl, HFR⟩
      case round =>
        obtain ⟨a, ha1, ha2, rfl, H⟩ := hrel
        have t0 := HT.out.c0
        have k0 := HB1.out.c0
        cases hp : hasI U.known (a : Int) <;> cases hm : hasI U.known (-(a : Int))
        case false.false =>
          have hfr : (hasI U.known (a : Int) || hasI U.known (-(a : Int))) = false := by rw [hp, hm]; rfl
          have HH1 := Lib.hid (has_any _ _ (a : Int) W1 HKN.out)
          have HH2 := Lib.hid (has_any _ _ (-(a : Int)) W1 HKN.out)
          rw [hp] at HH1
          rw [hm] at HH2
          by_cases haL : a ≤ L
          · have HFO : Hid (freeOf L U.known = a) := by rw [Hid, ← H.out]; exact free_hit haL hfr
            have hai2 : decide ((L : Int) < (a : Int)) = false := decide_eq_false (by omega)
            have hai3 : decide (L < a) = false := decide_eq_false (by omega)
            have hfl : freeOf L U.known ≤ L := by rw [HFO.out]; exact haL
            have HCC := Lib.hid (HFC.out hfl)
            have HON2 := Lib.hid (HON.out HWR.out hfl)
            have HTW2 := Lib.hid (fun P1 => HTW.out P1 HWR.out hfl)
            have HTH2 := Lib.hid (fun P1 P2 => HTH.out P1 P2 HWR.out hfl)
            rw [HFO.out] at HCC HON2 HTW2 HTH2
            clear hfl hfr hp hm HON HTW HTH HFU HFC HW1 H HFR
            go_wp2_with fail
            refine HH1.out.mono ?_
            rintro e w' ⟨rfl, rfl⟩
            go_wp2_with fail
            refine HH2.out.mono ?_
            rintro e w' ⟨rfl, rfl⟩
            obtain ⟨q, hq⟩ : ∃ q, q = W1.heap.size := ⟨_, rfl⟩
            obtain ⟨W2, hW2⟩ : ∃ W, W = W1.alloc (.cells #[.int .i64 (-(a : Int)), .int .i64 (a : Int)] 2) := ⟨_, rfl⟩
            have hb2 : Below W1.heap.size W1 W2 := by rw [hW2]; exact alloc_below _ _
            have hs2 : W2.heap.size = W1.heap.size + 1 := by rw [hW2]; simp
            have HQ0 : Hid (W2.cell? ⟨q, 0, none⟩ = some (.int .i64 (-(a : Int)))) := by rw [Hid, hW2, hq, World.cell?_alloc_at _ _ _ _ rfl]; rfl
            have HQ1 : Hid (W2.cell? ⟨q, 1, none⟩ = some (.int .i64 (a : Int))) := by rw [Hid, hW2, hq, World.cell?_alloc_at _ _ _ _ rfl]; rfl
            have HB2 := Lib.hid (HB1.out.below hb2 hsW')
            have HBW2 : Hid (Below w.heap.size w W2) := HBW1.out.trans (hb2.mono (Nat.le_of_lt hsW'))
            have HW2e := Lib.hid hW2
            have HQe := Lib.hid hq
            have hqw : w.heap.size < q := by omega
            have hqW : q < W2.heap.size := by omega
            have hwW2 : w.heap.size < W2.heap.size := by omega
            have HO2 : Hid (OwnII W2 lo W2.heap.size (.slice pa P.length pc) P) := (HO.out.below HBW2.out (Nat.le_refl _)).mono (Nat.le_refl _) (Nat.le_of_lt hwW2) (Nat.le_refl _)
            have HNQ : Hid (∀ p, w.heap.size ≤ p → (Value.slice pa P.length pc).ownBlock ≠ some p) := fun p hp e => by have := (HGB.out p e).2; omega
            clear hb2 hs2 hW2 hq
            go_wp2_with fail
            rw [← HW2e.out, ← HQe.out]
            go_loopw [2, 43] (fun pv kv wr => ∃ (k : Nat) (P1 : List (List Int)), k ≤ 2 ∧ kv = .int .i64 k ∧ Hid (proveAt L cs n a d P k P1) ∧ KeepB W2 wr (.slice pa P.length pc) ∧ OwnII wr lo wr.heap.size pv P1 ∧ Hid (BlkOk W2 (.slice pa P.length pc) pv)) (fun _ kv _ => 2 - (intOf kv).toNat)
            case atStart => exact ⟨0, P, by omega, rfl, Lib.hid rfl, KeepB.of_below _ (Below.refl _ _), HO2.out, Lib.hid (.inl rfl)⟩
            case round =>
              obtain ⟨k, P1, hk2, rfl, HAT, hkb, ho1, HBK⟩ := hrel
              obtain ⟨ea, ec, rfl⟩ := ho1.shape
              have hsr := hkb.size
              have hlor : lo ≤ wr.heap.size := by omega
              have HKB : Hid (KeepB w wr (.slice pa P.length pc)) := (KeepB.of_below _ HBW2.out).trans hkb (.inl rfl)
              have HBK0 : Hid (BlkOk w (.slice pa P.length pc) (.slice ea P1.length ec)) := by
                rcases HBK.out with h1 | h1
                · exact .inl h1
                · exact .inr (fun p hp => by have := h1 p hp; omega)
              have HDT : Hid (Ints wr l' h' (.slice da d.length dc) d) := HKB.out.ints HD.out hh' HDV.out
              have HBX := Lib.hid (hkb.box HB2.out (HNQ.out _ (Nat.le_refl _)))
              by_cases hk : k < 2
              · obtain ⟨x, hxc, hx1, hx2, hcx, hsn, hss, hpl1, hps1⟩ : ∃ x : Int, wr.cell? ⟨q, k, none⟩ = some (.int .i64 x) ∧ -10 ≤ x ∧ x ≤ 10 ∧ Cons (L : Int) (d ++ [x]) ∧ (proveGo L cs n (d ++ [x]) P1 = none → proveGo L cs (n + 1) d P = none) ∧ (∀ P2, proveGo L cs n (d ++ [x]) P1 = some P2 → proveAt L cs n a d P (k + 1) P2) ∧ P1.length ≤ 128 ∧ (P1.map List.length).sum ≤ 10 * P1.length := by
                  have hn := HNQ.out q (Nat.le_of_lt hqw)
                  have hat := HAT.out
                  rcases (by omega : k = 0 ∨ k = 1) with rfl | rfl
                  · obtain rfl : P1 = P := hat
                    exact ⟨-(a : Int), by rw [hkb.cell (p := ⟨q, 0, none⟩) hqW hn]; exact HQ0.out, by omega, by omega, HCC.out.1, HON2.out, fun P2 h => h, hPl, HPS.out⟩
                  · have hat' : proveGo L cs n (d ++ [-(a : Int)]) P = some P1 := hat
                    exact ⟨(a : Int), by rw [hkb.cell (p := ⟨q, 1, none⟩) hqW hn]; exact HQ1.out, by omega, by omega, HCC.out.2, HTW2.out P1 hat', fun P2 h => ⟨P1, hat', h⟩, prove_len _ _ _ _ hat', prove_sum hL10 _ _ _ _ HCC.out.1 HPS.out hat'⟩
                have HREC : Hid (∀ wx u, Below wr.heap.size wr wx → OwnI wx wr.heap.size wx.heap.size u (d ++ [x]) → Calls Try.prog 56 #[.agg #[.int .i64 L, .slice ca cs.length cc], u, .slice ea P1.length ec] wx (fun e w' => ∃ r b, e = .returned (.tuple #[r, .bool b]) ∧ RoundPost L cs n a d P k lo (.slice pa P.length pc) W2 r b w')) := fun wx u hbx hox => by
                  have hsx := hbx.size
                  have hbl : Below lo w wx := (HKB.out.below hlo (fun p hp => (HGB.out p hp).1)).trans (hbx.mono hlor)
                  refine (HIH.out wx L _ u (.slice ea P1.length ec) cs (d ++ [x]) P1 (lo := lo) (HV.out.below hbl hh) hh HZ.out HCL.out hox.rd (Nat.le_refl _) (fun p hp => .inl (ho1.ge p hp).2) hcx ((ho1.below hbx (Nat.le_refl _)).mono (Nat.le_refl _) hsx (Nat.le_refl _)) (by omega) hpl1 hps1 hL (by rw [List.length_append]; simp; omega)).mono ?_
                  rintro e w5 ⟨hk5, h5⟩
                  have hk6 : KeepB W2 w5 (.slice pa P.length pc) := hkb.trans ((KeepB.of_below (.slice ea P1.length ec) hbx).trans hk5 (.inl rfl)) HBK.out
                  rcases h5 with ⟨hn5, r5, rfl⟩ | ⟨P2, r5, he5, rfl, ho5, hb5⟩
                  · exact ⟨_, _, rfl, hk6, .inl ⟨rfl, hsn hn5⟩⟩
                  · refine ⟨_, _, rfl, hk6, .inr ⟨P2, rfl, hss P2 he5, ho5, ?_⟩⟩
                    rcases hb5 with h1 | h1
                    · rcases HBK.out with h2 | h2
                      · exact .inl (h1.trans h2)
                      · exact .inr (fun p hp => h2 p (by rw [← h1]; exact hp))
                    · exact .inr (fun p hp => by have := h1 p hp; omega)
                have HCP : Hid (∀ wx, Below wr.heap.size wr wx → Calls Try.prog 64 #[.slice da d.length dc] wx fun e w' => ∃ u, e = .returned u ∧ OwnI w' wx.heap.size w'.heap.size u d ∧ Below wx.heap.size wx w') := fun wx hbx => by
                  have hsx := hbx.size
                  have hsr0 := HKB.out.size
                  exact copyInts_any _ d wx (HDT.out.below hbx (by omega)) (by omega) (by omega)
                have HKB2 := Lib.hid hkb
                have kk : (k : Int) < 2 := by omega
                clear hsn hss hcx hps1 hkb ho1
                go_upto_region 11 with (fail)
                go_cut [12, 13] from 47 to 57 (fun rv bv wx => ∃ b, bv = .bool b ∧ RoundPost L cs n a d P k lo (.slice pa P.length pc) W2 rv b wx)
                case first =>
                  have hDr : Drew wr wr.drew := ⟨1, rfl⟩
                  have HBD : Hid (Below wr.heap.size wr wr.drew) := hDr.below _
                  have HBD2 : Hid (Below wr.heap.size wr (wr.drew.alloc (.cells #[.int .i64 x] 2))) := HBD.out.trans ((alloc_below wr.drew _).mono (Nat.le_refl _))
                  have ki : I64 x := by unfold I64; omega
                  have HX2 : Hid (Ints (wr.drew.alloc (.cells #[.int .i64 x] 2)) wr.heap.size (wr.heap.size + 1) (.slice (some ⟨wr.heap.size, 0, none⟩) 1 1) [x]) := oneInt wr.drew x ki 2
                  have HLN : Hid (d.length + [x].length ≤ 1099511627776) := by rw [Hid]; simp; omega
                  have HKI := Lib.hid ki
                  have hqx : w.heap.size < wr.heap.size := by omega
                  have k0 := HBX.out.c0
                  have k1 := HBX.out.c1
                  have k0a := (HBX.out.below HBD2.out hqx).c0
                  have k1a := (HBX.out.below HBD2.out hqx).c1
                  clear hDr ki
                  go_region_law (first
                    | (go_simp; go_at_call 64; refine (HCP.out wr.drew HBD.out).mono ?_; rintro e w3 ⟨u3, rfl, ho3, hb3⟩; obtain ⟨qa, qc, rfl⟩ := ho3.shape; have hb3' : Below wr.heap.size wr w3 := HBD.out.trans hb3; have hs3 := hb3.size; have hx3 := HBX.out.below hb3' hqx; have j0 := hx3.c0; have j1 := hx3.c1; have hba3 : Below w3.heap.size w3 (w3.alloc (.cells #[.int .i64 x] 2)) := alloc_below _ _; have hx3a := hx3.below hba3 hx3.lt; have j0a := hx3a.c0; have j1a := hx3a.c1; have HOA : Hid (OwnI (w3.alloc (.cells #[.int .i64 x] 2)) wr.heap.size w3.heap.size (.slice qa d.length qc) d) := Lib.hid (ho3.below hba3 (Nat.le_refl _)); have HXA := Lib.hid (oneInt w3 x HKI.out 2); have HBB := Lib.hid (hb3'.trans (hba3.mono hs3)); clear ho3 hb3 hb3' hx3 hba3 hx3a)
                    | (go_simp; go_at_call 64; refine (HCP.out (wr.drew.alloc (.cells #[.int .i64 x] 2)) HBD2.out).mono ?_; rintro e w3 ⟨u3, rfl, ho3, hb3⟩; obtain ⟨qa, qc, rfl⟩ := ho3.shape; have hsB := HBD2.out.size; have hs3 := hb3.size; have hb3' : Below wr.heap.size wr w3 := HBD2.out.trans (hb3.mono hsB); have hx3 := HBX.out.below hb3' hqx; have j0 := hx3.c0; have j1 := hx3.c1; have HOA : Hid (OwnI w3 wr.heap.size w3.heap.size (.slice qa d.length qc) d) := Lib.hid (ho3.mono hsB (Nat.le_refl _) (Nat.le_refl _)); have HXA := Lib.hid (HX2.out.below hb3 (by simp)); have HBB := Lib.hid hb3'; clear ho3 hb3 hb3' hx3)
                    | (refine step_appIs (by rfl) _ _ (by rfl) _ d (by first | (simp [Act.eval]; done) | (simp [Act.eval, Act.put]; done)) HOA.out _ [x] (by first | (simp [Act.eval]; done) | (simp [Act.eval, Act.put]; done)) HXA.out HLN.out HBB.out.size ?_; intro v4 w4 ho4 hsm4 hz4 _; have HB4 := Lib.hid (HBB.out.trans (hsm4.below (Nat.le_refl _) HBB.out.size)); obtain ⟨ya, yc, rfl⟩ := ho4.shape1; have hx4 := HBX.out.below HB4.out hqx; have i0 := hx4.c0; have i1 := hx4.c1; have HO4 := Lib.hid ho4; clear ho4 hsm4 hz4 hx4)
                    | (go_simp; go_at_call 56; refine (HREC.out w4 _ HB4.out HO4.out).mono ?_; rintro e w5 ⟨r5, b5, rfl, h5⟩; have H5 := Lib.hid h5; clear h5))
                  all_goals
                    go_simp
                    go_wp2
                    go_meet
                    exact ⟨b5, rfl, H5.out⟩
                case rest =>
                  obtain ⟨b, rfl, hk5, h5⟩ := hcut
                  rcases h5 with ⟨rfl, hn⟩ | ⟨P2, rfl, hat2, ho5, hb5⟩
                  · have HN := Lib.hid hn
                    have HK5 : Hid (KeepB w wc (.slice pa P.length pc)) := (KeepB.of_below _ HBW2.out).trans hk5 (.inl rfl)
                    clear hn hk5
                    go_wp2
                    go_ret2
                    exact ⟨HK5.out, .inl ⟨HN.out, _, rfl⟩⟩
                  · have HK5 := Lib.hid hk5
                    have HO5 := Lib.hid ho5
                    have HB5 := Lib.hid hb5
                    have HA5 := Lib.hid hat2
                    clear hk5 ho5 hb5 hat2
                    go_wp2
                    go_roundw
                    case rel => exact ⟨k + 1, P2, by omega, by go_num, HA5, HK5.out, HO5.out, HB5⟩
                    case measure => simp [intOf]; omega
              · obtain rfl : k = 2 := by omega
                obtain ⟨P0, hp0, hp1⟩ : ∃ P0, proveGo L cs n (d ++ [-(a : Int)]) P = some P0 ∧ proveGo L cs n (d ++ [(a : Int)]) P0 = some P1 := HAT.out
                have hs0 : (P0.map List.length).sum ≤ 10 * P0.length := prove_sum hL10 _ _ _ _ HCC.out.1 HPS.out hp0
                have HPL2 : Hid (P1.length ≤ 128) := prove_len _ _ _ _ hp1
                have HSU : Hid ((P1.map List.length).sum ≤ 10 * P1.length) := prove_sum hL10 _ _ _ _ HCC.out.2 hs0 hp1
                have HEQ := Lib.hid (HTH2.out P0 P1 hp0 hp1)
                have hwr0 := HKB.out.size
                have HDH : Hid (h' ≤ wr.heap.size) := by rw [Hid]; omega
                have HLW : Hid (lo ≤ wr.heap.size) := hlor
                have HOP := Lib.hid ho1
                have HBKs := Lib.hid HBK.out
                clear HBK
                have HBK := HBK0
                clear hp0 hp1 hs0 hkb ho1 HBKs HBK0 HAT HTH2 HTW2 HON2
                have HOPS := Lib.hid (opposites_any _ d wr HDT.out HDH.out HDR.out (by omega))
                have HLE := Lib.hid HSU.out
                go_wp2_with fail
                refine HOPS.out.mono ?_
                rintro e wa ⟨oa, rfl, hoa, hba⟩
                obtain ⟨qa, qc, rfl⟩ := hoa.shape
                have hsa := hba.size
                have HBL := Lib.hid (byLetter_any _ (negs d) wa hoa.rd (Nat.le_refl _) HNR.out (by rw [negs_len]; omega))
                have HBA := Lib.hid hba
                clear hoa hba
                go_wp2_with fail
                refine HBL.out.mono ?_
                rintro e wb ⟨ob, rfl, hob, hbb⟩
                rw [HIC.out] at hob
                obtain ⟨sa, sc, rfl⟩ := hob.shape
                have hsb := hbb.size
                have hsbW : wr.heap.size ≤ wb.heap.size := by omega
                have HBC : Hid (Below wr.heap.size wr wb) := HBA.out.trans (hbb.mono hsa)
                have HOC : Hid (OwnI wb wr.heap.size wb.heap.size (.slice sa (clauseOf d).length sc) (clauseOf d)) := hob.mono hsa (Nat.le_refl _) (Nat.le_refl _)
                have HOPc := Lib.hid (HOP.out.below HBC.out (Nat.le_refl _))
                have HSM : Hid (((P1 ++ [clauseOf d]).map List.length).sum ≤ 1099511627776) := by rw [Hid, sum_snoc, clauseOf_len]; have := HSU.out; have := HPL2.out; omega
                have hPL3 : P1.length ≤ 128 := HPL2.out
                have hll : P1.length + 1 ≤ 1048576 := by omega
                have hloW : lo ≤ wr.heap.size := HLW.out
                have hlor : lo ≤ wb.heap.size := by omega
                clear hob hbb
                go_wp2_with (at_builtin; refine wpList_appIIK rfl _ _ rfl _ P1 rfl _ (clauseOf d) _ HOPc.out HOC.out (Nat.le_refl _) hloW rfl hll HSM.out hlor ?_)
                intro vz wz hoz hkz hsmz hzz hbz
                have HOZ := Lib.hid hoz
                have HKZ : Hid (KeepB w wz (.slice pa P.length pc)) := by
                  have h1 : KeepB wb wz (.slice ea P1.length ec) := ⟨hsmz.os, hsmz.tape, hsmz.output, hsmz.size, hkz⟩
                  have h2 : KeepB wr wz (.slice ea P1.length ec) := by
                    refine ⟨h1.os.trans HBC.out.os, h1.tape.trans HBC.out.tape, h1.output.trans HBC.out.output, Nat.le_trans HBC.out.size h1.size, fun k hk hn => ?_⟩
                    rw [h1.block k (by omega) hn, HBC.out.block k hk]
                  exact HKB.out.trans h2 HBK.out
                have HBZ : Hid (BlkOk w (.slice pa P.length pc) vz) := by
                  rcases hbz with hbz | hbz
                  · rcases HBK.out with h1 | h1
                    · exact .inl (hbz.trans h1)
                    · exact .inr (fun p hp => h1 p (by rw [← hbz]; exact hp))
                  · refine .inr (fun p hp => ?_)
                    rw [hbz] at hp
                    injection hp with hp
                    have := HKB.out.size
                    omega
                obtain ⟨za, zc, rfl⟩ := hoz.shape1
                clear hoz hkz hsmz hzz hbz
                by_cases hfull : P1.length < 128
                · have HN : Hid (proveGo L cs (n + 1) d P = some (P1 ++ [clauseOf d])) := by rw [Hid, HEQ.out, if_pos hfull]
                  have hfi : ((P1.length + 1 : Nat) : Int) ≤ 128 := by omega
                  have hfi2 : (P1.length : Int) + 1 ≤ 128 := by omega
                  go_wp2
                  go_ret2
                  exact ⟨HKZ.out, .inr ⟨_, _, HN.out, rfl, HOZ.out, HBZ.out⟩⟩
                · have HN : Hid (proveGo L cs (n + 1) d P = none) := by rw [Hid, HEQ.out, if_neg hfull]
                  have hfi : ¬ ((P1.length + 1 : Nat) : Int) ≤ 128 := by omega
                  have hfi2 : ¬ (P1.length : Int) + 1 ≤ 128 := by omega
                  go_wp2
                  go_ret2
                  exact ⟨HKZ.out, .inl ⟨HN.out, _, rfl⟩⟩
          · have haL2 : L < a := by omega
            have HFO : Hid (¬ freeOf L U.known ≤ L) := by rw [Hid, ← H.out, free_end haL2]; exact haL
            have hai2 : (L : Int) < (a : Int) := by omega
            have HN := Lib.hid (HFU.out HWR.out HFO.out)
            clear haL haL2 hp hm hfr
            go_wp2_with fail
            refine HH1.out.mono ?_
            rintro e w' ⟨rfl, rfl⟩
            go_wp2_with fail
            refine HH2.out.mono ?_
            rintro e w' ⟨rfl, rfl⟩
            go_wp2
            go_ret2
            exact ⟨KeepB.of_below _ HBW1.out, .inl ⟨HN.out, _, rfl⟩⟩
        all_goals
          have hfr : (hasI U.known (a : Int) || hasI U.known (-(a : Int))) = true := by rw [hp, hm]; rfl
          have haL : a ≤ L := by
            refine Classical.byContradiction fun hc => ?_
            rw [HKI.out a (by omega)] at hfr
            cases hfr
          have HN := Lib.hid (free_step haL hfr)
          have HH1 := Lib.hid (has_any _ _ (a : Int) W1 HKN.out)
          have HH2 := Lib.hid (has_any _ _ (-(a : Int)) W1 HKN.out)
          rw [hp] at HH1
          rw [hm] at HH2
          clear hp hm hfr
          go_wp2_with fail
          refine HH1.out.mono ?_
          rintro e w' ⟨rfl, rfl⟩
          try go_wp2_with fail
          try (refine HH2.out.mono ?_; rintro e w' ⟨rfl, rfl⟩)
          try go_wp2
          go_round
          case rel => exact ⟨a + 1, by omega, by omega, by go_num, Lib.hid (by rw [← HN.out, H.out])⟩
          case measure => (simp [intOf]; try omega)
    · have hwd : decide (U.wrong < 0) = false := by simpa using hwr
      have HEQ := Lib.hid (HW1.out (by omega))
      have HPL2 : Hid (P.length ≤ 128) := hPl
      have HKB : Hid (KeepB w W1 (.slice pa P.length pc)) := KeepB.of_below _ HBW1.out
      have HBK : Hid (BlkOk w (.slice pa P.length pc) (.slice pa P.length pc)) := .inl rfl
      have HOP : Hid (OwnII W1 lo W1.heap.size (.slice pa P.length pc) P) := (HO.out.below HBW1.out (Nat.le_refl _)).mono (Nat.le_refl _) (Nat.le_of_lt hsW') (Nat.le_refl _)
      have HDT := Lib.hid (HD.out.below HBW1.out hh')
      have HDH : Hid (h' ≤ W1.heap.size) := by rw [Hid]; omega
      have HSU := HPS
      have HLW : Hid (lo ≤ W1.heap.size) := by rw [Hid]; omega
      rw [HW1e.out] at t2
      have hwn : 0 ≤ U.wrong := by omega
      clear hwr HIH HTH HTW HON HFU HFC
      go_upto_region 16 with (fail)
      rw [← HW1e.out]
      have HOPS := Lib.hid (opposites_any _ d W1 HDT.out HDH.out HDR.out (by omega))
      have HLE := Lib.hid HSU.out
      go_wp2_with fail
      refine HOPS.out.mono ?_
      rintro e wa ⟨oa, rfl, hoa, hba⟩
      obtain ⟨qa, qc, rfl⟩ := hoa.shape
      have hsa := hba.size
      have HBL := Lib.hid (byLetter_any _ (negs d) wa hoa.rd (Nat.le_refl _) HNR.out (by rw [negs_len]; omega))
      have HBA := Lib.hid hba
      clear hoa hba
      go_wp2_with fail
      refine HBL.out.mono ?_
      rintro e wb ⟨ob, rfl, hob, hbb⟩
      rw [HIC.out] at hob
      obtain ⟨sa, sc, rfl⟩ := hob.shape
      have hsb := hbb.size
      have hsbW : W1.heap.size ≤ wb.heap.size := by omega
      have HBC : Hid (Below W1.heap.size W1 wb) := HBA.out.trans (hbb.mono hsa)
      have HOC : Hid (OwnI wb W1.heap.size wb.heap.size (.slice sa (clauseOf d).length sc) (clauseOf d)) := hob.mono hsa (Nat.le_refl _) (Nat.le_refl _)
      have HOPc := Lib.hid (HOP.out.below HBC.out (Nat.le_refl _))
      have HSM : Hid (((P ++ [clauseOf d]).map List.length).sum ≤ 1099511627776) := by rw [Hid, sum_snoc, clauseOf_len]; have := HSU.out; have := HPL2.out; omega
      have hPL3 : P.length ≤ 128 := HPL2.out
      have hll : P.length + 1 ≤ 1048576 := by omega
      have hloW : lo ≤ W1.heap.size := HLW.out
      have hlor : lo ≤ wb.heap.size := by omega
      clear hob hbb
      go_wp2_with (at_builtin; refine wpList_appIIK rfl _ _ rfl _ P rfl _ (clauseOf d) _ HOPc.out HOC.out (Nat.le_refl _) hloW rfl hll HSM.out hlor ?_)
      intro vz wz hoz hkz hsmz hzz hbz
      have HOZ := Lib.hid hoz
      have HKZ : Hid (KeepB w wz (.slice pa P.length pc)) := by
        have h1 : KeepB wb wz (.slice pa P.length pc) := ⟨hsmz.os, hsmz.tape, hsmz.output, hsmz.size, hkz⟩
        have h2 : KeepB W1 wz (.slice pa P.length pc) := by
          refine ⟨h1.os.trans HBC.out.os, h1.tape.trans HBC.out.tape, h1.output.trans HBC.out.output, Nat.le_trans HBC.out.size h1.size, fun k hk hn => ?_⟩
          rw [h1.block k (by omega) hn, HBC.out.block k hk]
        exact HKB.out.trans h2 HBK.out
      have HBZ : Hid (BlkOk w (.slice pa P.length pc) vz) := by
        rcases hbz with hbz | hbz
        · rcases HBK.out with h1 | h1
          · exact .inl (hbz.trans h1)
          · exact .inr (fun p hp => h1 p (by rw [← hbz]; exact hp))
        · refine .inr (fun p hp => ?_)
          rw [hbz] at hp
          injection hp with hp
          have := HKB.out.size
          omega
      obtain ⟨za, zc, rfl⟩ := hoz.shape1
      clear hoz hkz hsmz hzz hbz
      by_cases hfull : P.length < 128
      · have HN : Hid (proveGo L cs (n + 1) d P = some (P ++ [clauseOf d])) := by rw [Hid, HEQ.out, if_pos hfull]
        have hfi : ((P.length + 1 : Nat) : Int) ≤ 128 := by omega
        have hfi2 : (P.length : Int) + 1 ≤ 128 := by omega
        go_wp2
        go_ret2
        exact ⟨HKZ.out, .inr ⟨_, _, HN.out, rfl, HOZ.out, HBZ.out⟩⟩
      · have HN : Hid (proveGo L cs (n + 1) d P = none) := by rw [Hid, HEQ.out, if_neg hfull]
        have hfi : ¬ ((P.length + 1 : Nat) : Int) ≤ 128 := by omega
        have hfi2 : ¬ (P.length : Int) + 1 ≤ 128 := by omega
        go_wp2
        go_ret2
        exact ⟨HKZ.out, .inl ⟨HN.out, _, rfl⟩⟩
end Go.Proofs.Ytcpbgjnijhcpkaa
