/-
  Known literals by unit clauses: contracts in the reference.
-/
import Derived.Test.YtcpbgjnijhcpkaaTri
namespace Go.Proofs.Ytcpbgjnijhcpkaa
open Go.RowKit
set_option linter.unusedVariables false
set_option maxRecDepth 100000

set_option maxHeartbeats 1000000 in
set_option maxRecDepth 100000 in
theorem l05Known_any {l h : Nat} (q : Nat) (v : Value) (kn : List Int) (x : Int) (w : World) (hp0 : w.cell? ⟨q, 0, none⟩ = some v) (hv : Ints w l h v kn) (hx1 : -10 ≤ x) (hx2 : x ≤ 10) (hnb : hasI kn x = true → hasI kn (-x) = true → False) :
    Calls Try.prog 108 #[.pointer (some ⟨q, 0, none⟩), .int .i64 x] w fun e w' => e = .returned (.int .i64 (knownN kn x)) ∧ w = w' := by
  obtain ⟨a, cap, rfl, hc1, hc2, hd⟩ := hv.out
  have HN : Hid (hasI kn x = true → hasI kn (-x) = true → False) := hnb
  clear hv hnb
  go_enter Try.func108, Try.ntmps108
  go_wp2_with fail
  go_loop [11] (fun i => ∃ k : Nat, k ≤ kn.length ∧ i = .int .i64 k ∧ Hid (hasI (kn.drop k) x = hasI kn x) ∧ Hid (hasI (kn.drop k) (-x) = hasI kn (-x))) (fun i => kn.length - (intOf i).toNat)
  case atStart => exact ⟨0, Nat.zero_le _, rfl, Lib.hid rfl, Lib.hid rfl⟩
  case round =>
    obtain ⟨k, hk, rfl, H, H2⟩ := hrel
    by_cases hlt : k < kn.length
    · have HD := Lib.hid (drop_cons kn k hlt)
      rcases hd with rfl | ⟨b, off, rfl, hb1, hb2, hb3, hcell⟩
      · simp at hlt
      have hck := hcell k hlt
      have hge : kn.getD k 0 = kn[k] := by simp [List.getD, hlt]
      rw [hge] at hck
      obtain ⟨y, hy⟩ : ∃ y, y = kn[k] := ⟨_, rfl⟩
      rw [← hy] at hck HD
      clear hcell hge hy
      cases hyx : (y == x)
      · cases hyn : (y == -x)
        · go_wp2
          go_round
          case rel => exact ⟨k + 1, by omega, by go_num, Lib.hid (by rw [← H.out, HD.out, hasI, hyx, Bool.false_or]), Lib.hid (by rw [← H2.out, HD.out, hasI, hyn, Bool.false_or])⟩
          case measure => simp [intOf]; omega
        · have h2 : hasI kn (-x) = true := by rw [← H2.out, HD.out, hasI, hyn, Bool.true_or]
          have h1 : hasI kn x = false := by
            cases h1 : hasI kn x
            · rfl
            · exact absurd (HN.out h1 h2) id
          have HE : Hid (knownN kn x = -1) := by simp [Hid, knownN, h1, h2]
          clear h1 h2
          go_wp2
          go_ret
          exact ⟨ret_int (by rw [HE.out]), rfl⟩
      · have h1 : hasI kn x = true := by rw [← H.out, HD.out, hasI, hyx, Bool.true_or]
        have HE : Hid (knownN kn x = 1) := by simp [Hid, knownN, h1]
        clear h1
        go_wp2
        go_ret
        exact ⟨ret_int (by rw [HE.out]), rfl⟩
    · have h1 : hasI kn x = false := by rw [← H.out, drop_len _ _ (by omega)]; rfl
      have h2 : hasI kn (-x) = false := by rw [← H2.out, drop_len _ _ (by omega)]; rfl
      have HE : Hid (knownN kn x = 0) := by simp [Hid, knownN, h1, h2]
      clear h1 h2
      go_wp2
      go_ret
      exact ⟨ret_int (by rw [HE.out]), rfl⟩
set_option maxHeartbeats 1000000 in
set_option maxRecDepth 100000 in
theorem l05Look_any {l h l' h' : Nat} (q : Nat) (v v' : Value) (kn c : List Int) (w : World) (hp0 : w.cell? ⟨q, 0, none⟩ = some v) (hv : Ints w l h v kn) (hv' : Ints w l' h' v' c) (hc : ∀ x ∈ c, -10 ≤ x ∧ x ≤ 10) (hnb : ∀ x, hasI kn x = true → hasI kn (-x) = true → False) (hz : c.length ≤ 1048576) :
    Calls Try.prog 110 #[.pointer (some ⟨q, 0, none⟩), v'] w fun e w' => e = .returned (.tuple #[.int .i64 (lookN kn c).1, .int .i64 (lookN kn c).2]) ∧ w = w' := by
  obtain ⟨a, cap, rfl, hc1, hc2, hd⟩ := hv'.out
  have HKN : Hid (∀ x, -10 ≤ x → x ≤ 10 → Calls Try.prog 108 #[.pointer (some ⟨q, 0, none⟩), .int .i64 x] w fun e w' => e = .returned (.int .i64 (knownN kn x)) ∧ w = w') := fun x h1 h2 => l05Known_any q v kn x w hp0 hv h1 h2 (hnb x)
  have HC := Lib.hid hc
  clear hv hv' hnb hc hp0
  go_enter Try.func110, Try.ntmps110
  go_wp2_with fail
  go_loop [6, 7, 12] (fun o la i => ∃ (k : Nat) (n : Nat) (y : Int), k ≤ c.length ∧ i = .int .i64 k ∧ o = .int .i64 n ∧ la = .int .i64 y ∧ n ≤ k ∧ Hid (n = (giveRest kn (c.take k)).length) ∧ Hid (y = lastOf (giveRest kn (c.take k))) ∧ Hid (giveDone kn (c.take k) = false)) (fun _ _ i => c.length - (intOf i).toNat)
  case atStart => exact ⟨0, 0, 0, Nat.zero_le _, rfl, rfl, rfl, Nat.le_refl _, Lib.hid rfl, Lib.hid rfl, Lib.hid rfl⟩
  case round =>
    obtain ⟨k, n, la, hk, rfl, rfl, rfl, hnk, H, H2, H3⟩ := hrel
    by_cases hlt : k < c.length
    · rcases hd with rfl | ⟨b, off, rfl, hb1, hb2, hb3, hcell⟩
      · simp at hlt
      have hck := hcell k hlt
      have hge : c.getD k 0 = c[k] := by simp [List.getD, hlt]
      rw [hge] at hck
      have hxr := HC.out c[k] (List.getElem_mem hlt)
      have HT := Lib.hid (show c.take (k + 1) = c.take k ++ [c[k]] from List.take_succ_eq_append_getElem hlt)
      have HRS := Lib.hid (giveRest_snoc kn (c.take k) c[k])
      have HDS := Lib.hid (giveDone_snoc kn (c.take k) c[k])
      have HAT : Hid (hasI kn c[k] = true → giveDone kn c = true) := fun h => giveDone_at hlt h
      obtain ⟨x, hx⟩ : ∃ x, x = c[k] := ⟨_, rfl⟩
      rw [← hx] at hck hxr HT HRS HDS HAT
      have hx1 := hxr.1
      have hx2 := hxr.2
      have HCL := Lib.hid (HKN.out x hx1 hx2)
      clear hcell hge hx hxr
      cases h1 : hasI kn x
      · cases h2 : hasI kn (-x)
        · have hkn : knownN kn x = 0 := by simp [knownN, h1, h2]
          rw [hkn] at HCL
          rw [h2] at HRS
          have HNX : Hid (n + 1 = (giveRest kn (c.take (k + 1))).length) := by rw [Hid, HT.out, HRS.out, H.out]; simp
          have HLX : Hid (x = lastOf (giveRest kn (c.take (k + 1)))) := by rw [Hid, HT.out, HRS.out]; exact (lastOf_snoc _ _).symm
          have HDX : Hid (giveDone kn (c.take (k + 1)) = false) := by rw [Hid, HT.out, HDS.out, H3.out, h1]; rfl
          clear hkn h1 h2 H H2 H3
          go_wp2_with fail
          refine HCL.out.mono ?_
          rintro e w' ⟨rfl, rfl⟩
          go_wp2
          go_round
          case rel => exact ⟨k + 1, n + 1, x, by omega, by go_num, by go_num, rfl, by omega, HNX, HLX, HDX⟩
          case measure => simp [intOf]; omega
        · have hkn : knownN kn x = -1 := by simp [knownN, h1, h2]
          rw [hkn] at HCL
          rw [h2] at HRS
          have HNX : Hid (n = (giveRest kn (c.take (k + 1))).length) := by rw [Hid, HT.out, HRS.out, H.out]; simp
          have HLX : Hid (la = lastOf (giveRest kn (c.take (k + 1)))) := by rw [Hid, HT.out, HRS.out, H2.out]; simp
          have HDX : Hid (giveDone kn (c.take (k + 1)) = false) := by rw [Hid, HT.out, HDS.out, H3.out, h1]; rfl
          clear hkn h1 h2 H H2 H3
          go_wp2_with fail
          refine HCL.out.mono ?_
          rintro e w' ⟨rfl, rfl⟩
          go_wp2
          go_round
          case rel => exact ⟨k + 1, n, la, by omega, by go_num, rfl, rfl, by omega, HNX, HLX, HDX⟩
          case measure => simp [intOf]; omega
      · have hkn : knownN kn x = 1 := by simp [knownN, h1]
        rw [hkn] at HCL
        have HE : Hid (lookN kn c = (-1, 0)) := by rw [Hid, lookN, if_pos (HAT.out h1)]
        clear hkn h1
        go_wp2_with fail
        refine HCL.out.mono ?_
        rintro e w' ⟨rfl, rfl⟩
        go_wp2
        go_ret2
        exact ⟨by rw [HE.out]; rfl, rfl⟩
    · obtain rfl : k = c.length := by omega
      have e1 := H.out
      have e2 := H2.out
      have e3 := H3.out
      rw [List.take_length] at e1 e2 e3
      have HE : Hid (lookN kn c = ((n : Int), la)) := by rw [Hid, lookN, if_neg (by rw [e3]; decide), ← e1, ← e2]
      clear e1 e2 e3 H H2 H3
      go_wp2
      go_ret2
      exact ⟨by rw [HE.out]; rfl, rfl⟩
set_option maxHeartbeats 2000000 in
set_option maxRecDepth 100000 in
theorem l05Units_any (w : World) {l h l' h' : Nat} (L : Int) (v v' : Value) (cs : List (List Int)) (g : List Int) (hL : L ≤ 10) (hv : Intss w l h v cs) (hh : h ≤ w.heap.size) (hz : SmallII cs) (hcl : ∀ c ∈ cs, ∀ x ∈ c, isLit L x = true) (hv' : Ints w l' h' v' g) (hh' : h' ≤ w.heap.size) (hg : Cons L g) :
    Calls Try.prog 60 #[v, v'] w fun e w' => ∃ vk vb, e = .returned (.agg #[vk, vb, .int .i64 (unitsF cs g).wrong]) ∧ OwnI w' w.heap.size w'.heap.size vk (unitsF cs g).known ∧ OwnN w' w.heap.size w'.heap.size vb (unitsF cs g).why ∧ Below w.heap.size w w' := by
  obtain ⟨ca, ccap, CV, rfl, cc1, cc2, CR, cd⟩ := hv.out
  obtain ⟨ga, gcap, rfl, gc1, gc2, gd⟩ := hv'.out
  obtain ⟨W1, hW1⟩ : ∃ W, W = w.alloc (.cells #[.slice none 0 0, .slice none 0 0, .int .i64 0] 75) := ⟨_, rfl⟩
  obtain ⟨W, hW⟩ : ∃ W, W = W1.alloc (.cells #[.slice none 0 0, .slice none 0 0, .int .i64 (-1)] 75) := ⟨_, rfl⟩
  have hs1 : W1.heap.size = w.heap.size + 1 := by rw [hW1]; simp
  have hsW : W.heap.size = w.heap.size + 2 := by rw [hW]; simp [hs1]
  have hB1 : Below w.heap.size w W1 := by rw [hW1]; exact alloc_below _ _
  have hBW : Below w.heap.size w W := by rw [hW]; exact hB1.alloc (by omega) _
  have HR : Hid (TriC W w.heap.size 75 (.slice none 0 0) (.slice none 0 0) (.int .i64 0)) := by rw [Hid, hW]; refine TriC.alloc ?_ _; rw [hW1]; exact TriC.new _ _ _ _ _
  have HS : Hid (UnitC W (w.heap.size + 2) (w.heap.size + 1) 75 (.slice none 0 0) (.slice none 0 0) [] [] (-1)) :=
    ⟨by rw [hW, ← hs1]; exact TriC.new _ _ _ _ _, OwnI.nil _ _ _ (Nat.le_refl _), OwnN.nil _ _ _ (Nat.le_refl _), by simp [Value.ownBlock], by simp [Value.ownBlock], by simp [Value.ownBlock]⟩
  have hg10 := hg.len hL
  have HGR : Hid (∀ x ∈ g, x ≠ 0 ∧ -10 ≤ x ∧ x ≤ 10) := fun x hx => hg.rng hL hx
  have HG := Lib.hid hg
  have HCL := Lib.hid hcl
  have HBW := Lib.hid hBW
  have hcl1 := hz.1
  have HZ := Lib.hid hz
  have GC : Hid (∀ (wx : World) (j : Nat), Below w.heap.size w wx → j < g.length → ∃ b o, ga = some ⟨b, o, none⟩ ∧ b < w.heap.size ∧ wx.cell? ⟨b, o + j, none⟩ = some (.int .i64 (g.getD j 0))) := fun wx j hb hj => by
    rcases gd with rfl | ⟨b, o, e, r1, r2, r3, hc⟩
    · simp at hj
    · exact ⟨b, o, e, by omega, by rw [hb.cell (p := ⟨b, o + j, none⟩) (show b < w.heap.size by omega)]; exact hc j hj⟩
  have CC : Hid (∀ (wx : World) (j : Nat), Below w.heap.size w wx → (hj : j < cs.length) → ∃ b o, ca = some ⟨b, o, none⟩ ∧ wx.cell? ⟨b, o + j, none⟩ = some (CV j) ∧ Ints wx l h (CV j) cs[j]) := fun wx j hb hj => by
    rcases cd with rfl | ⟨b, o, e, r1, r2, r3, hc⟩
    · simp at hj
    · exact ⟨b, o, e, by rw [hb.cell (p := ⟨b, o + j, none⟩) (show b < w.heap.size by omega)]; exact hc j hj, (CR j hj).below hb hh⟩
  clear hv hv' gd cd CR hcl hg hz hB1 hBW
  go_enter Try.func60, Try.ntmps60
  go_wp2_with fail
  rw [← hW1, ← hW]
  clear hW hW1 hs1
  go_loopw [15] (fun i wr => ∃ (k : Nat) (vk vb : Value), k ≤ g.length ∧ i = .int .i64 k ∧ UnitC wr (w.heap.size + 2) (w.heap.size + 1) 75 vk vb (g.take k) (List.replicate k (-1)) (-1) ∧ Below (w.heap.size + 1) W wr) (fun i _ => g.length - (intOf i).toNat)
  case atStart => exact ⟨0, _, _, Nat.zero_le _, rfl, by simpa using HS.out, Below.refl _ _⟩
  case round =>
    clear HS
    obtain ⟨k, vk, vb, hk, rfl, hU, hb⟩ := hrel
    have hsr := hb.size
    have HB := Lib.hid (HBW.out.trans (hb.mono (by omega)))
    by_cases hlt : k < g.length
    · obtain ⟨gb, go_, rfl, gb1, gcell⟩ := GC.out wr k HB.out hlt
      have hge : g.getD k 0 = g[k] := by simp [List.getD, hlt]
      rw [hge] at gcell
      have HT := Lib.hid (show g.take (k + 1) = g.take k ++ [g[k]] from List.take_succ_eq_append_getElem hlt)
      have hxr := HGR.out g[k] (List.getElem_mem hlt)
      obtain ⟨x, hx⟩ : ∃ x, x = g[k] := ⟨_, rfl⟩
      rw [← hx] at gcell HT hxr
      clear hge hx
      have HGK : Hid ((g.take k).length = k) := by rw [Hid, List.length_take]; omega
      have ki : I64 x := by unfold I64; omega
      obtain ⟨va, vc, hva⟩ := hU.kn.shape
      rw [HGK.out] at hva
      subst hva
      obtain ⟨ba, bc, hba⟩ := hU.why.shape
      rw [List.length_replicate] at hba
      subst hba
      have hUa := hU.alloc (.cells #[.int .i64 x] 2)
      have HUD : Hid (UnitC (wr.alloc (.cells #[.int .i64 x] 2)).drew (w.heap.size + 2) (w.heap.size + 1) 75 (.slice va k vc) (.slice ba k bc) (g.take k) (List.replicate k (-1)) (-1)) := hUa.drew ⟨1, rfl⟩
      have HX : Hid (Ints (wr.alloc (.cells #[.int .i64 x] 2)).drew wr.heap.size (wr.heap.size + 1) (.slice (some ⟨wr.heap.size, 0, none⟩) 1 1) [x]) := (oneInt wr x ki 2).drew ⟨1, rfl⟩
      have HLN : Hid ((g.take k).length + [x].length ≤ 1099511627776) := by rw [Hid, HGK.out]; simp; omega
      have HLO : Hid (w.heap.size + 2 ≤ (wr.alloc (.cells #[.int .i64 x] 2)).drew.heap.size) := by
        show w.heap.size + 2 ≤ (wr.alloc (.cells #[.int .i64 x] 2)).heap.size
        simp; omega
      have HBA : Hid (Below (w.heap.size + 1) W (wr.alloc (.cells #[.int .i64 x] 2)).drew) := (hb.alloc (by omega) _).trans ((show Drew _ (wr.alloc (.cells #[.int .i64 x] 2)).drew from ⟨1, rfl⟩).below _)
      have hgd : (wr.alloc (.cells #[.int .i64 x] 2)).cell? ⟨gb, go_ + k, none⟩ = some (.int .i64 x) := by
        rw [(alloc_below wr _).cell (p := ⟨gb, go_ + k, none⟩) (show gb < wr.heap.size by omega)]; exact gcell
      have c0 := hU.cell.c0
      have c0a := hUa.cell.c0
      have HSZ : Hid (w.heap.size + 1 ≤ (wr.alloc (.cells #[.int .i64 x] 2)).drew.heap.size) := by
        show w.heap.size + 1 ≤ (wr.alloc (.cells #[.int .i64 x] 2)).heap.size
        simp; omega
      clear hU hUa hb
      go_wp2_with fail
      go_region_law ((refine step_appIsK (by rfl) _ _ (by rfl) _ (g.take k) (by simp [Act.eval]) HUD.out.kn _ [x] (by simp [Act.eval]) HX.out HLN.out HLO.out ?_; intro v3 w3 ho3 hk3 hsm3 hz3 hb3; have hm3 := HUD.out.midK hk3; have c3 := hm3.c0; have f3 := hm3.f0; obtain ⟨ya, yc, hya⟩ := ho3.shape1; rw [HGK.out] at hya; subst hya))
      all_goals
        have U4 := HUD.out.addK ho3 hk3 (Nat.le_refl _) hz3 hb3
        rw [← HT.out] at U4
        have B4 := (HBA.out.trans (hsm3.below (B := w.heap.size + 1) (by omega) HSZ.out)).setCell (p := ⟨w.heap.size + 1, 0, none⟩) (Nat.le_refl _) (.slice ya (k + 1) yc)
        obtain ⟨W4, hW4⟩ : ∃ W4, W4 = w3.setCell ⟨w.heap.size + 1, 0, none⟩ (.slice ya (k + 1) yc) := ⟨_, rfl⟩
        rw [← hW4] at U4 B4 ⊢
        have hs4 := B4.size
        have c1 := U4.cell.c1
        have c1a := (U4.alloc (.cells #[.int .i64 (-1)] 3)).cell.c1
        have HU4 := Lib.hid U4
        have HB4 := Lib.hid B4
        clear ho3 hk3 hsm3 hz3 hb3 c0 c0a gcell hgd hW4 hm3 c3 f3 U4 B4
        go_wp2_with (at_builtin; refine wpList_app1KN rfl _ _ rfl _ (List.replicate k (-1)) rfl (-1) _ HU4.out.why rfl (by unfold I64; omega) (by simp; omega) (by omega) ?_)
        intro v5 w5 ho5 hk5 hsm5 hz5 hb5
        obtain ⟨za, zc, hza⟩ := ho5.shape1
        rw [List.length_replicate] at hza
        subst hza
        have hm5 := HU4.out.midB hk5
        have c5 := hm5.c1
        have f5 := hm5.f1
        have HU5 : Hid (UnitC (w5.setCell ⟨w.heap.size + 1, 1, none⟩ (.slice za (k + 1) zc)) (w.heap.size + 2) (w.heap.size + 1) 75 (.slice ya (k + 1) yc) (.slice za (k + 1) zc) (g.take (k + 1)) (List.replicate (k + 1) (-1)) (-1)) := by
          rw [Hid, List.replicate_succ']
          exact HU4.out.addB ho5 hk5 (Nat.le_succ _) hz5 hb5
        have HB5 : Hid (Below (w.heap.size + 1) W (w5.setCell ⟨w.heap.size + 1, 1, none⟩ (.slice za (k + 1) zc))) := (HB4.out.trans (hsm5.below (B := w.heap.size + 1) (by omega) (by omega))).setCell (Nat.le_refl _) _
        clear ho5 hk5 hsm5 hz5 hb5 hm5 c1 c1a
        go_wp2
        go_roundw
        case rel => exact ⟨k + 1, _, _, by omega, by go_num, HU5.out, HB5.out⟩
        case measure => simp [intOf]; omega
    · obtain rfl : k = g.length := by omega
      rw [List.take_length] at hU
      have hUs := hU
      have hbs := hb
      clear hU hb HB
      go_wp2_with fail
      go_loopw [7] (fun _ wr => ∃ (vk vb : Value) (kn why : List Int), UnitC wr (w.heap.size + 2) (w.heap.size + 1) 75 vk vb kn why (-1) ∧ Hid (Cons L kn) ∧ Hid (why.length = kn.length) ∧ Hid (unitsGo cs (11 - kn.length) kn why = unitsF cs g) ∧ Below (w.heap.size + 1) W wr) (fun _ wr => 11 - lenAt wr ⟨w.heap.size + 1, 0, none⟩)
      case atStart => exact ⟨_, _, _, _, hUs, HG, Lib.hid (by simp), Lib.hid rfl, hbs⟩
      case round =>
        clear hUs hbs
        obtain ⟨vk, vb, kn, why, hU, HC, HWL, H, hb⟩ := hrel
        have hkl := HC.out.len hL
        have hsr := hb.size
        have HB := Lib.hid (HBW.out.trans (hb.mono (by omega)))
        obtain ⟨va, vc, rfl⟩ := hU.kn.shape
        obtain ⟨ba, bc, rfl⟩ := hU.why.shape
        have HLN : Hid (lenAt wr ⟨w.heap.size + 1, 0, none⟩ = kn.length) := hU.len
        have HR1 := Lib.hid (HR.out.below hb (by omega))
        have HU := Lib.hid hU
        have HBB := Lib.hid hb
        obtain ⟨w1, hw1⟩ : ∃ w1, w1 = wr := ⟨_, rfl⟩
        subst hw1
        have HSP := Lib.hid (scan_spec kn cs cs.length 0 (-1) 0 (by omega) (.inl (by omega)))
        have hcz : (0 : Int) ≤ (cs.length : Int) := by omega
        clear hU hb
        go_wp2_with fail
        go_loop [7, 8, 35] (fun uv lv iv => ∃ (i : Nat) (u y : Int), i ≤ cs.length ∧ iv = .int .i64 i ∧ uv = .int .i64 u ∧ lv = .int .i64 y ∧ -1 ≤ u ∧ u < (cs.length : Int) + 1 ∧ -10 ≤ y ∧ y ≤ 10 ∧ Hid (scanU kn cs (cs.length - i) i u y = scanU kn cs cs.length 0 (-1) 0)) (fun _ _ iv => cs.length - (intOf iv).toNat)
        case atStart => exact ⟨0, -1, 0, Nat.zero_le _, rfl, rfl, rfl, by omega, by omega, by omega, by omega, Lib.hid rfl⟩
        case round =>
          obtain ⟨i, u, y, hi, rfl, rfl, rfl, hu1, hu2, hy1, hy2, HSC⟩ := hrel
          by_cases hlt : i < cs.length
          · obtain ⟨cb, co, rfl, hck, hxi⟩ := CC.out w1 i HB.out hlt
            obtain ⟨ka, kc, hke, _, _, _⟩ := hxi.out
            rw [hke] at hck hxi
            have hzi := HZ.out.row hlt
            have HLT : Hid (∀ x ∈ cs[i], x ≠ 0 ∧ -10 ≤ x ∧ x ≤ 10) := fun x hx => by have := isLit_iff.1 (HCL.out _ (List.getElem_mem hlt) x hx); omega
            have HLK := Lib.hid (l05Look_any (w.heap.size + 1) _ _ kn cs[i] w1 HU.out.cell.c0 HU.out.kn.rd hxi (fun x hx => (HLT.out x hx).2) (fun x h1 h2 => HC.out.not_both ((hasI_iff _ _).1 h1) ((hasI_iff _ _).1 h2)) hzi)
            have HNR : Hid ((giveRest kn cs[i]).length ≤ cs[i].length) := List.length_filter_le _ _
            have HYR : Hid (-10 ≤ lastOf (giveRest kn cs[i]) ∧ lastOf (giveRest kn cs[i]) ≤ 10) := by
              by_cases h0 : giveRest kn cs[i] = []
              · rw [h0]; exact ⟨by decide, by decide⟩
              · have h1 := lastOf_mem h0
                rw [giveRest, List.mem_filter] at h1
                exact (HLT.out _ h1.1).2
            cases hdn : giveDone kn cs[i]
            · have hlk : lookN kn cs[i] = (((giveRest kn cs[i]).length : Int), lastOf (giveRest kn cs[i])) := by rw [lookN, if_neg (by rw [hdn]; decide)]
              rw [hlk] at HLK
              obtain ⟨n, hn⟩ : ∃ n, n = (giveRest kn cs[i]).length := ⟨_, rfl⟩
              obtain ⟨z, hzz⟩ : ∃ z, z = lastOf (giveRest kn cs[i]) := ⟨_, rfl⟩
              rw [← hn, ← hzz] at HLK
              have hnl := HNR.out
              rw [← hn] at hnl
              have hz1 := HYR.out.1
              have hz2 := HYR.out.2
              rw [← hzz] at hz1 hz2
              have HN := Lib.hid hn
              have HZZ := Lib.hid hzz
              have HDN := Lib.hid hdn
              clear hn hzz hlk hdn
              by_cases hn0 : n = 0
              · subst hn0
                have hsw := scan_wrong (u := u) (l := y) hlt HDN.out HN.out.symm
                have HE : Hid (unitsF cs g = ⟨kn, why, (i : Int)⟩) := by
                  rw [Hid, ← H.out]; exact units_wrong hkl (by rw [← HSC.out]; exact hsw) (by omega)
                have q0 := HU.out.cell.c0
                have q1 := HU.out.cell.c1
                have q2 := HU.out.cell.c2
                have f2 := HU.out.cell.f2
                have r0 := HR1.out.c0
                have r1 := HR1.out.c1
                have r2 := HR1.out.c2
                have g0 := HR1.out.f0
                have g1 := HR1.out.f1
                have g2 := HR1.out.f2
                clear hsw
                go_wp2_with fail
                refine HLK.out.mono ?_
                rintro e w' ⟨rfl, rfl⟩
                go_wp2_with fail
                have hS := ((((Same.refl w.heap.size (w.heap.size + 2) w1).setCell (p := ⟨w.heap.size + 1, 2, none⟩) (by simp) (by simp) (.int .i64 i)).setCell (p := ⟨w.heap.size, 0, none⟩) (by simp) (by simp) (.slice va kn.length vc)).setCell (p := ⟨w.heap.size, 1, none⟩) (by simp) (by simp) (.slice ba why.length bc)).setCell (p := ⟨w.heap.size, 2, none⟩) (by simp) (by simp) (.int .i64 i)
                refine bodyPost_ret (v := .agg #[.slice va kn.length vc, .slice ba why.length bc, .int .i64 i]) (by simp [results, Try.results60, go_sem, r0, r1, r2]) rfl ⟨_, _, by rw [HE.out], ?_, ?_, HB.out.trans (hS.below (Nat.le_refl _) (by omega))⟩
                · rw [HE.out]; exact (HU.out.kn.same hS (.inr (by omega))).mono (by omega) hS.size (Nat.le_refl _)
                · rw [HE.out]; exact (HU.out.why.same hS (.inr (by omega))).mono (by omega) hS.size (Nat.le_refl _)
              · by_cases hun : n = 1 ∧ u < 0
                · obtain ⟨rfl, hu0⟩ := hun
                  have HS2 : Hid (scanU kn cs (cs.length - (i + 1)) (i + 1) i z = scanU kn cs cs.length 0 (-1) 0) := by
                    rw [Hid, ← HSC.out, scan_unit hlt HDN.out HN.out.symm hu0, HZZ.out]
                  clear hn0
                  go_wp2_with fail
                  refine HLK.out.mono ?_
                  rintro e w' ⟨rfl, rfl⟩
                  go_wp2
                  go_round
                  case rel => exact ⟨i + 1, i, z, by omega, by go_num, rfl, rfl, by omega, by omega, hz1, hz2, HS2⟩
                  case measure => (simp [intOf]; try omega)
                · have HS2 : Hid (scanU kn cs (cs.length - (i + 1)) (i + 1) u y = scanU kn cs cs.length 0 (-1) 0) := by
                    rw [Hid, ← HSC.out, scan_other hlt HDN.out (by rw [← HN.out]; exact hn0) (by rw [← HN.out]; exact hun)]
                  have e0 : ((n : Int) == 0) = false := by simpa using hn0
                  by_cases hn1 : n = 1
                  · subst hn1
                    have hu0 : ¬ u < 0 := fun h => hun ⟨rfl, h⟩
                    have hu3 : decide (u < 0) = false := by simpa using hu0
                    clear hn0 hun
                    go_wp2_with fail
                    refine HLK.out.mono ?_
                    rintro e w' ⟨rfl, rfl⟩
                    go_wp2
                    go_round
                    case rel => exact ⟨i + 1, u, y, by omega, by go_num, rfl, rfl, by omega, by omega, hy1, hy2, HS2⟩
                    case measure => (simp [intOf]; try omega)
                  · have e1 : ((n : Int) == 1) = false := by simp; omega
                    clear hn0 hun
                    go_wp2_with fail
                    refine HLK.out.mono ?_
                    rintro e w' ⟨rfl, rfl⟩
                    go_wp2
                    go_round
                    case rel => exact ⟨i + 1, u, y, by omega, by go_num, rfl, rfl, by omega, by omega, hy1, hy2, HS2⟩
                    case measure => (simp [intOf]; try omega)
            · have hlk : lookN kn cs[i] = (-1, 0) := by rw [lookN, if_pos hdn]
              rw [hlk] at HLK
              have HS2 : Hid (scanU kn cs (cs.length - (i + 1)) (i + 1) u y = scanU kn cs cs.length 0 (-1) 0) := by
                rw [Hid, ← HSC.out, scan_done hlt hdn]
              clear hlk hdn
              go_wp2_with fail
              refine HLK.out.mono ?_
              rintro e w' ⟨rfl, rfl⟩
              go_wp2
              go_round
              case rel => exact ⟨i + 1, u, y, by omega, by go_num, rfl, rfl, by omega, by omega, hy1, hy2, HS2⟩
              case measure => (simp [intOf]; try omega)
          · obtain rfl : i = cs.length := by omega
            have HSE : Hid (scanU kn cs cs.length 0 (-1) 0 = (-1, u, y)) := by rw [Hid, ← HSC.out]; exact scan_end kn cs u y
            have q0 := HU.out.cell.c0
            by_cases hu0 : u < 0
            · have HE : Hid (unitsF cs g = ⟨kn, why, -1⟩) := by
                rw [Hid, ← H.out]; exact units_end hkl HSE.out hu0
              have q1 := HU.out.cell.c1
              have q2 := HU.out.cell.c2
              have r0 := HR1.out.c0
              have r1 := HR1.out.c1
              have r2 := HR1.out.c2
              have g0 := HR1.out.f0
              have g1 := HR1.out.f1
              have g2 := HR1.out.f2
              go_wp2_with fail
              have hS := ((((Same.refl w.heap.size (w.heap.size + 2) w1)).setCell (p := ⟨w.heap.size, 0, none⟩) (by simp) (by simp) (.slice va kn.length vc)).setCell (p := ⟨w.heap.size, 1, none⟩) (by simp) (by simp) (.slice ba why.length bc)).setCell (p := ⟨w.heap.size, 2, none⟩) (by simp) (by simp) (.int .i64 (-1))
              refine bodyPost_ret (v := .agg #[.slice va kn.length vc, .slice ba why.length bc, .int .i64 (-1)]) (by simp [results, Try.results60, go_sem, r0, r1, r2]) rfl ⟨_, _, by rw [HE.out], ?_, ?_, HB.out.trans (hS.below (Nat.le_refl _) (by omega))⟩
              · rw [HE.out]; exact (HU.out.kn.same hS (.inr (by omega))).mono (by omega) hS.size (Nat.le_refl _)
              · rw [HE.out]; exact (HU.out.why.same hS (.inr (by omega))).mono (by omega) hS.size (Nat.le_refl _)
            · have HT : isLit L y = true ∧ y ∉ kn ∧ -y ∉ kn := by
                rcases HSP.out.2 with ⟨h1, _⟩ | ⟨j, _, hT⟩
                · rw [HSE.out] at h1; exact absurd h1 hu0
                · rw [HSE.out] at hT
                  obtain ⟨t1, t2, t3, _⟩ := hT.lit HCL.out
                  exact ⟨t1, t2, t3⟩
              have HC2 : Hid (Cons L (kn ++ [y])) := HC.out.snoc HT.1 HT.2.1 HT.2.2
              have H2 : Hid (unitsGo cs (11 - (kn ++ [y]).length) (kn ++ [y]) (why ++ [u]) = unitsF cs g) := by
                rw [Hid, ← H.out, units_more hkl HSE.out hu0]
              have HWL2 : Hid ((why ++ [u]).length = (kn ++ [y]).length) := by rw [Hid, List.length_append, List.length_append, HWL.out]; rfl
              have c0a := (HU.out.alloc (.cells #[.int .i64 y] 2)).cell.c0
              have hsw : w.heap.size + 2 ≤ w1.heap.size := by omega
              have hwl : why.length ≤ 10 := by rw [HWL.out]; exact hkl
              clear HT
              go_wp2_with (at_builtin; refine wpList_app1K rfl _ _ rfl _ kn rfl y _ HU.out.kn rfl (by unfold I64; omega) (by omega) hsw ?_)
              intro v3 w3 ho3 hk3 hsm3 hz3 hb3
              have hm3 := HU.out.midK hk3
              have c3 := hm3.c0
              have f3 := hm3.f0
              obtain ⟨ya, yc, rfl⟩ := ho3.shape1
              have c1 := hm3.c1
              have HU4 := Lib.hid (HU.out.addK ho3 hk3 (Nat.le_succ _) hz3 hb3)
              have HB4 := Lib.hid ((HBB.out.trans (hsm3.below (B := w.heap.size + 1) (by omega) (by omega))).setCell (p := ⟨w.heap.size + 1, 0, none⟩) (Nat.le_refl _) (.slice ya (kn.length + 1) yc))
              have hs4 := HB4.out.size
              have HSE : Hid ((w3.setCell ⟨w.heap.size + 1, 0, none⟩ (.slice ya (kn.length + 1) yc)).heap.size = w3.heap.size) := by simp [Hid, World.setCell]
              clear ho3 hk3 hsm3 hz3 hb3 q0 c0a hm3
              go_wp2_with (at_builtin; refine wpList_app1KN rfl _ _ rfl _ why rfl u _ HU4.out.why (by rw [HSE.out]; rfl) (by unfold I64; omega) (by omega) (by omega) ?_)
              intro v5 w5 ho5 hk5' hsm5 hz5 hb5
              have hk5 : ∀ k, k < (w3.setCell ⟨w.heap.size + 1, 0, none⟩ (.slice ya (kn.length + 1) yc)).heap.size → (Value.slice ba why.length bc).ownBlock ≠ some k → w5.heap[k]? = (w3.setCell ⟨w.heap.size + 1, 0, none⟩ (.slice ya (kn.length + 1) yc)).heap[k]? := fun k hk hn => hk5' k (by rw [HSE.out] at hk; exact hk) hn
              clear hk5'
              obtain ⟨za, zc, rfl⟩ := ho5.shape1
              have hm5 := HU4.out.midB hk5
              have c5 := hm5.c1
              have f5 := hm5.f1
              have HU5 := Lib.hid (HU4.out.addB ho5 hk5 (by rw [HSE.out]; exact Nat.le_succ _) hz5 hb5)
              have HB5 := Lib.hid ((HB4.out.trans (hsm5.below (B := w.heap.size + 1) (by omega) (by omega))).setCell (p := ⟨w.heap.size + 1, 1, none⟩) (Nat.le_refl _) (.slice za (why.length + 1) zc))
              have HLN5 := Lib.hid HU5.out.len
              clear ho5 hk5 hsm5 hz5 hb5 hm5 c1 c3 f3
              go_wp2
              go_roundw
              case rel => exact ⟨_, _, _, _, HU5.out, HC2, HWL2, H2, HB5.out⟩
              case measure => rw [HLN5.out, HLN.out, List.length_append]; simp; omega
end Go.Proofs.Ytcpbgjnijhcpkaa
