/-
  HornModel: contracts in the program.
-/
import Derived.Test.YtcpbgjnijhcpkaaHornS
namespace Go.Proofs.Ytcpbgjnijhcpkaa
open Go.RowKit
set_option linter.unusedVariables false
set_option maxRecDepth 100000

def mOf (v : Value) (n : Nat) : Nat := match v with
  | .bool true => n + 1
  | _ => 0
def isF (o : Option Value) : Bool := match o with
  | some (.bool false) => true
  | _ => false
def falsesAt (w : World) (g L : Nat) : Nat := (List.range L).countP fun i => isF (w.cell? ⟨g, i, none⟩)
theorem countP_range (bs : List Bool) (p : Bool → Bool) : bs.countP p = (List.range bs.length).countP fun i => p (bs.getD i false) := by
  have e : bs = (List.range bs.length).map fun i => bs.getD i false := by
    refine List.ext_getElem (by simp) fun i h1 h2 => ?_
    simp [List.getD, h1]
  conv => lhs; rw [e]
  rw [List.countP_map]; rfl
theorem RowB.falses {w : World} {lo g L cap : Nat} {bs : List Bool} (h : RowB w lo g L cap bs) : falsesAt w g L = falses bs := by
  unfold falsesAt Go.Proofs.Ytcpbgjnijhcpkaa.falses
  rw [countP_range, h.length]
  refine List.countP_congr fun i hi => ?_
  rw [h.cell (List.mem_range.1 hi)]
  cases bs.getD i false <;> simp [isF]
/-- where the first plain literal stands, or -1 -/
def idxPos (c : List Int) : Int := if headAt c < c.length then (headAt c : Int) else -1
theorem hornPos_any (x : Int) (w : World) : Calls Try.prog 92 #[.int .i64 x] w fun e w' => e = .returned (.bool (isPos x)) ∧ w = w' := by
  go_enter Try.func92, Try.ntmps92
  go_wp2
  go_ret
  exact ⟨rfl, rfl⟩
set_option maxHeartbeats 800000 in
set_option maxRecDepth 100000 in
theorem indexPos_any {l h : Nat} (F : FuncId) (hF : ∀ args wx, (callFunc F args).run Try.prog wx = .ok (.enter F args) wx) (hP : ∀ (x : Int) (w : World), Calls Try.prog F #[.int .i64 x] w fun e w' => e = .returned (.bool (isPos x)) ∧ w = w') (v : Value) (c : List Int) (w : World) (hv : Ints w l h v c) (hz : c.length ≤ 1048576) :
    Calls Try.prog 91 #[v, .func (.func F) #[] #[]] w fun e w' => e = .returned (.int .i64 (idxPos c)) ∧ w = w' := by
  obtain ⟨a, cap, rfl, hc1, hc2, hd⟩ := hv.out
  have HP : Hid (∀ (x : Int) (w : World), Calls Try.prog F #[.int .i64 x] w fun e w' => e = .returned (.bool (isPos x)) ∧ w = w') := hP
  clear hv hP
  go_enter Try.func91, Try.ntmps91
  go_wp2_with fail
  go_loop [8] (fun i => ∃ k : Nat, k ≤ c.length ∧ i = .int .i64 k ∧ Hid (∀ j, j < k → isPos (c.getD j 0) = false)) (fun i => c.length - (intOf i).toNat)
  case atStart => exact ⟨0, Nat.zero_le _, rfl, fun j hj => by omega⟩
  case round =>
    obtain ⟨k, hk, rfl, H⟩ := hrel
    by_cases hlt : k < c.length
    · have hx := headAt_drop hk H.out
      rcases hd with rfl | ⟨b, off, rfl, hb1, hb2, hb3, hcell⟩
      · simp at hlt
      have hck := hcell k hlt
      rw [drop_cons c k hlt] at hx
      have hge : c.getD k 0 = c[k] := by simp [List.getD, hlt]
      rw [hge] at hck
      obtain ⟨x, hxe⟩ : ∃ x, x = c[k] := ⟨_, rfl⟩
      rw [← hxe] at hck hx
      have HX := Lib.hid hxe
      have HCL := Lib.hid (HP.out x w)
      have HH := Lib.hid hx
      clear hcell hge hxe hx
      cases hp : isPos x
      · rw [hp] at HCL
        have HN : Hid (∀ j, j < k + 1 → isPos (c.getD j 0) = false) := fun j hj => by
          by_cases e : j = k
          · subst e; simp only [List.getD, List.getElem?_eq_getElem hlt, Option.getD_some]; rw [← HX.out]; exact hp
          · exact H.out j (by omega)
        clear hp
        go_wp2_with fail
        refine HCL.out.mono ?_
        rintro e w' ⟨rfl, rfl⟩
        go_wp2
        go_round
        case rel => exact ⟨k + 1, by omega, by go_num, HN⟩
        case measure => (simp [intOf]; try omega)
      · rw [hp] at HCL
        have HE : Hid (headAt c = k) := by rw [Hid, HH.out, headAt, if_pos hp]; rfl
        clear hp
        go_wp2_with fail
        refine HCL.out.mono ?_
        rintro e w' ⟨rfl, rfl⟩
        go_wp2
        go_ret
        exact ⟨ret_int (by rw [idxPos, HE.out, if_pos hlt]), rfl⟩
    · obtain rfl : k = c.length := by omega
      have HE : Hid (headAt c = c.length) := by rw [Hid, headAt_drop hk H.out, drop_len _ _ (Nat.le_refl _)]; rfl
      go_wp2
      go_ret
      exact ⟨ret_int (by rw [idxPos, HE.out, if_neg (Nat.lt_irrefl _)]), rfl⟩
set_option maxHeartbeats 2000000 in
set_option maxRecDepth 100000 in
theorem implHornModel_any (w : World) {l h : Nat} (v : Value) (f : FormD) (hv : FormR w l h v f) (hh : h ≤ w.heap.size) (hz : SmallII f.clauses) :
    Calls Try.prog 34 #[v] w fun e w' => ∃ r, e = .returned (.tuple #[r, .bool (hornF f).2]) ∧ OwnB w' w.heap.size w'.heap.size r (hornF f).1 ∧ Below w.heap.size w w' := by
  obtain ⟨u, rfl, hu⟩ := hv.ex
  obtain ⟨ca, ccap, CV, rfl, cc1, cc2, CR, cd⟩ := hu.out
  obtain ⟨W, hW⟩ : ∃ W, W = w.alloc (.cells #[.int .i64 f.letters, .slice ca f.clauses.length ccap] 26) := ⟨_, rfl⟩
  have hBW : Below w.heap.size w W := by rw [hW]; exact alloc_below _ _
  have hsW : W.heap.size = w.heap.size + 1 := by rw [hW]; simp
  have hbx : BoxF W w.heap.size f.letters (.slice ca f.clauses.length ccap) := by rw [hW]; exact BoxF.new _ _ _ _
  have CC : Hid (∀ (wx : World) (j : Nat), Below w.heap.size w wx → (hj : j < f.clauses.length) → ∃ b o, ca = some ⟨b, o, none⟩ ∧ wx.cell? ⟨b, o + j, none⟩ = some (CV j) ∧ Ints wx l h (CV j) f.clauses[j]) := fun wx j hb hj => by
    rcases cd with e | ⟨b, o, e, r1, r2, r3, hc⟩
    · rw [e] at hj; simp at hj
    · exact ⟨b, o, e, by rw [hb.cell (p := ⟨b, o + j, none⟩) (show b < w.heap.size by omega)]; exact hc j hj, (CR j hj).below hb hh⟩
  have HF := Lib.hid (hv.below hBW hh)
  have HB := Lib.hid hbx
  have HBW := Lib.hid hBW
  have hW1 : w.heap.size < W.heap.size := by omega
  have hhW : h ≤ W.heap.size := by omega
  have HZ := Lib.hid hz
  have k0 := hbx.c0
  have k1 := hbx.c1
  clear hbx hu hv cd CR hBW hsW
  go_enter Try.func34, Try.ntmps34
  go_wp2_with fail
  rw [← hW]
  clear hW
  go_wp2_with fail
  refine (implValidForm_any W _ _ HF.out hhW HZ.out).mono ?_
  rintro e w2 ⟨rfl, hb2⟩
  clear k0 k1
  have hs2 := hb2.size
  have HB2 := Lib.hid (HB.out.below hb2 hW1)
  have HBW2 := Lib.hid (HBW.out.trans (hb2.mono (by omega)))
  cases hval : validForm f
  · have HE := Lib.hid (horn_no (f := f) (by rw [okHorn, hval]; rfl))
    clear hb2
    go_wp2
    go_ret2
    exact ⟨_, by rw [HE.out]; rfl, by rw [HE.out]; exact OwnB.nil _ _ _ (Nat.le_refl _), HBW2.out⟩
  obtain ⟨L, hL, hL1, hL2⟩ := lettersN hval
  have hLt : f.letters.toNat = L := by omega
  have hcl48 := (validForm_bounds hval).2.1
  have HLA := Lib.hid (litsAll_of_valid hL hval)
  have HOK : Hid (okHorn f = f.clauses.all upsOk) := by rw [Hid, okHorn, hval]; rfl
  have HRG : Hid (∀ c ∈ f.clauses, ∀ x ∈ c, -10 ≤ x ∧ x ≤ 10) := fun c hc x hx => by
    have h1 := HLA.out c hc x hx
    unfold absI at h1
    split at h1 <;> omega
  rw [hL] at HB2
  have HLT := Lib.hid hLt
  have k0 := HB2.out.c0
  have k1 := HB2.out.c1
  clear hval hb2 hLt
  go_wp2_with fail
  go_loop [20] (fun iv => ∃ k : Nat, k ≤ f.clauses.length ∧ iv = .int .i64 k ∧ Hid ((f.clauses.drop k).all upsOk = f.clauses.all upsOk)) (fun iv => f.clauses.length - (intOf iv).toNat)
  case atStart => exact ⟨0, Nat.zero_le _, rfl, Lib.hid rfl⟩
  case round =>
    obtain ⟨k, hk, rfl, H⟩ := hrel
    by_cases hlt : k < f.clauses.length
    · obtain ⟨cb, co, rfl, cck, cri⟩ := CC.out w2 k HBW2.out hlt
      obtain ⟨ka, kc, hke, _, _, kd⟩ := cri.out
      rw [hke] at cck
      have hzk := HZ.out.row hlt
      have HD := Lib.hid (drop_cons f.clauses k hlt)
      have HR := Lib.hid (HRG.out f.clauses[k] (List.getElem_mem hlt))
      obtain ⟨c, hc⟩ : ∃ c, c = f.clauses[k] := ⟨_, rfl⟩
      rw [← hc] at cck hzk HD HR kd
      clear hke cri hc
      go_wp2_with fail
      go_loop [6, 26] (fun nv mv => ∃ (m n : Nat), m ≤ c.length ∧ mv = .int .i64 m ∧ nv = .int .i64 n ∧ n ≤ m ∧ Hid (n = (c.take m).countP isPos)) (fun _ mv => c.length - (intOf mv).toNat)
      case atStart => exact ⟨0, 0, Nat.zero_le _, rfl, rfl, Nat.le_refl _, Lib.hid rfl⟩
      case round =>
        obtain ⟨m, n, hm, rfl, rfl, hnm, HN⟩ := hrel
        by_cases hml : m < c.length
        · rcases kd with rfl | ⟨kb, ko, rfl, kb1, kb2, kb3, kcell⟩
          · simp at hml
          have hcm := kcell m hml
          have hge : c.getD m 0 = c[m] := by simp [List.getD, hml]
          rw [hge] at hcm
          have HPS := Lib.hid (pos_take_succ hml)
          obtain ⟨x, hx⟩ : ∃ x, x = c[m] := ⟨_, rfl⟩
          rw [← hx] at hcm HPS
          have HPX : Hid (isPos x = decide (0 < x)) := rfl
          clear kcell hge hx
          by_cases hx0 : 0 < x
          · have hd : decide (0 < x) = true := by simpa using hx0
            have HNX : Hid (n + 1 = (c.take (m + 1)).countP isPos) := by rw [Hid, HPS.out, HPX.out, hd, HN.out]; rfl
            go_wp2
            go_round
            case rel => exact ⟨m + 1, n + 1, by omega, by go_num, by go_num, by omega, HNX⟩
            case measure => (simp [intOf]; try omega)
          · have hd : decide (0 < x) = false := by simpa using hx0
            have HNX : Hid (n = (c.take (m + 1)).countP isPos) := by rw [Hid, HPS.out, HPX.out, hd, HN.out]; rfl
            go_wp2
            go_round
            case rel => exact ⟨m + 1, n, by omega, by go_num, rfl, by omega, HNX⟩
            case measure => (simp [intOf]; try omega)
        · obtain rfl : m = c.length := by omega
          have hcn : c.countP isPos = n := by have := HN.out; rw [List.take_length] at this; exact this.symm
          have HUP : Hid (upsOk c = decide (n ≤ 1)) := by rw [Hid, upsOk, hcn]
          clear HN hcn
          by_cases hn1 : n ≤ 1
          · have hnd : ¬ (1 : Nat) < n := by omega
            have HN2 : Hid ((f.clauses.drop (k + 1)).all upsOk = f.clauses.all upsOk) := by rw [Hid, ← H.out, HD.out, List.all_cons, HUP.out, decide_eq_true hn1, Bool.true_and]
            go_wp2
            go_round
            case rel => exact ⟨k + 1, by omega, by go_num, HN2⟩
            case measure => (simp [intOf]; try omega)
          · have hnd : (1 : Nat) < n := by omega
            have HE : Hid (hornF f = ([], false)) := horn_no (by rw [HOK.out, ← H.out, HD.out, List.all_cons, HUP.out, decide_eq_false hn1, Bool.false_and])
            clear hn1
            go_wp2
            go_ret2
            exact ⟨_, by rw [HE.out]; rfl, by rw [HE.out]; exact OwnB.nil _ _ _ (Nat.le_refl _), HBW2.out⟩
    · obtain rfl : k = f.clauses.length := by omega
      have hokt : okHorn f = true := by rw [HOK.out, ← H.out, drop_len _ _ (Nat.le_refl _)]; rfl
      have HOKT := Lib.hid hokt
      have HUP : Hid (∀ c ∈ f.clauses, upsOk c = true) := by
        have := HOK.out
        rw [hokt] at this
        exact List.all_eq_true.1 this.symm
      obtain ⟨i0, hi, hz0, hz1, hz2⟩ := info_parts info_bool
      clear H hokt
      go_wp2_with (refine wpList_make_full _ rfl _ _ 40 rfl w2.heap.size 4 i0 (.bool false) 1 Try.underlying40 hi hz0 hz1 .i64 .i64 _ _ L rfl rfl rfl rfl ?c1 (by unfold maxLen; omega) ?c2 ?_)
      case c1 => first | omega | (rw [hz2]; omega)
      intro w4 hown hg
      have hrow := RowB.made hown
      have hb4 : Below w2.heap.size w2 w4 := (Below.refl _ _).grown hg (Nat.le_refl _) (fun k hk => by cases hk)
      have HROW := Lib.hid hrow
      have HB4 := Lib.hid hb4
      have HUS := Lib.hid (under_start L f.clauses)
      clear hown hg hrow hb4 k0 k1
      go_wp2_with fail
      go_loopw [10] (fun cv wr => ∃ (bs : List Bool) (t : Bool), cv = .bool t ∧ RowB wr w2.heap.size w2.heap.size L L bs ∧ Hid (Under L f.clauses bs) ∧ Hid (t = false → formTrue bs f.clauses = true) ∧ Below w2.heap.size w2 wr) (fun cv wr => mOf cv (falsesAt wr w2.heap.size L))
      case atStart => exact ⟨_, true, rfl, HROW.out, HUS, Lib.hid (fun h => by cases h), HB4.out⟩
      case round =>
        clear HROW HB4 HUS
        obtain ⟨bs0, t0, rfl, hr, HUD, HFT, hb⟩ := hrel
        have hs := hb.size
        have HFA := Lib.hid hr.falses
        cases t0
        · obtain ⟨he1, he2⟩ := under_end HUD.out (HFT.out rfl)
          have HE : Hid (hornF f = (bs0, true)) := by rw [Hid, horn_yes HLT.out HOKT.out he1, he2]
          have HR := Lib.hid hr
          have HBR := Lib.hid (HBW2.out.trans (hb.mono (by omega)))
          clear he1 he2 hr hb
          go_wp2
          go_ret2
          exact ⟨_, by rw [HE.out]; rfl, by rw [HE.out]; exact (HR.out.own (by omega) HR.out.lt (Nat.le_refl _)).mono (by omega) (Nat.le_refl _) (Nat.le_refl _), HBR.out⟩
        · have k1 := (HB2.out.below hb (by omega)).c1
          have HR := Lib.hid hr
          have HBB := Lib.hid hb
          obtain ⟨w5, hw5⟩ : ∃ w5, w5 = wr := ⟨_, rfl⟩
          subst hw5
          clear hr hb
          go_wp2_with fail
          clear k1
          go_loopw [10, 45] (fun cv iv wr => ∃ (k : Nat) (bs : List Bool) (t : Bool), k ≤ f.clauses.length ∧ iv = .int .i64 k ∧ cv = .bool t ∧ RowB wr w2.heap.size w2.heap.size L L bs ∧ Hid (Under L f.clauses bs) ∧ Hid (t = false → bs = bs0 ∧ ∀ j (hj : j < f.clauses.length), j < k → clauseTrue bs0 f.clauses[j] = true) ∧ Hid (t = true → falses bs < falses bs0) ∧ Below w2.heap.size w2 wr) (fun _ iv _ => f.clauses.length - (intOf iv).toNat)
          case atStart => exact ⟨0, bs0, false, Nat.zero_le _, rfl, rfl, HR.out, HUD, Lib.hid (fun _ => ⟨rfl, fun j hj h => by omega⟩), Lib.hid (fun h => by cases h), HBB.out⟩
          case round =>
            clear HR HBB HUD HFT
            obtain ⟨k, bs, t, hk, rfl, rfl, hr, HUD, HT1, HT2, hb⟩ := hrel
            have hs6 := hb.size
            have HR := Lib.hid hr
            have HBB := Lib.hid hb
            by_cases hlt : k < f.clauses.length
            · obtain ⟨cb, co, rfl, cck, cri⟩ := CC.out wr k (HBW2.out.trans (hb.mono (by omega))) hlt
              obtain ⟨ka, kc, hke, _, _, kd⟩ := cri.out
              rw [hke] at cck cri
              have hzk := HZ.out.row hlt
              have hmem : f.clauses[k] ∈ f.clauses := List.getElem_mem hlt
              have HLK := Lib.hid (HLA.out f.clauses[k] hmem)
              have HUK := Lib.hid (HUP.out f.clauses[k] hmem)
              have HGK : Hid (∀ j (hj : j < f.clauses.length), j < k + 1 → j < k ∨ f.clauses[j] = f.clauses[k]) := fun j hj h => by
                by_cases e : j = k
                · subst e; exact .inr rfl
                · exact .inl (by omega)
              obtain ⟨c, hc⟩ : ∃ c, c = f.clauses[k] := ⟨_, rfl⟩
              rw [← hc] at cck cri hzk hmem HLK HUK HGK kd
              have hbl : bs.length = L := HUD.out.1
              have HCH := Lib.hid (clauseHolds_any _ _ c bs wr cri (hr.rd hr.lt (Nat.le_refl _)) (by rw [hbl]; exact HLK.out) (by omega))
              have HIX := Lib.hid (indexPos_any 92 (fun _ _ => by kernel_rfl) hornPos_any _ c wr cri hzk)
              have HMEM := Lib.hid hmem
              have HBL := Lib.hid hbl
              clear hr hb hke cri hc hmem hbl
              cases hct : clauseTrue bs c
              · rw [hct] at HCH
                have HCT := Lib.hid hct
                clear hct
                rcases headAt_spec c with ⟨h1, h2⟩ | ⟨h1, h2⟩
                · rw [idxPos, h1, if_neg (Nat.lt_irrefl _)] at HIX
                  have HE : Hid (hornF f = ([], false)) := horn_none HLT.out (under_none HUD.out HMEM.out HLK.out HCT.out h2)
                  clear h1 h2
                  go_wp2_with fail
                  refine HCH.out.mono ?_
                  rintro e w' ⟨rfl, rfl⟩
                  go_wp2_with fail
                  refine HIX.out.mono ?_
                  rintro e w' ⟨rfl, rfl⟩
                  go_wp2
                  go_ret2
                  exact ⟨_, by rw [HE.out]; rfl, by rw [HE.out]; exact OwnB.nil _ _ _ (Nat.le_refl _), HBW2.out.trans (HBB.out.mono (by omega))⟩
                · rw [idxPos, if_pos h1] at HIX
                  rcases kd with e0 | ⟨kb, ko, rfl, kb1, kb2, kb3, kcell⟩
                  · rw [e0] at h1; simp at h1
                  have hcm := kcell (headAt c) h1
                  have hge : c.getD (headAt c) 0 = c[headAt c] := by simp [List.getD, h1]
                  rw [hge] at hcm
                  have hxm : c[headAt c] ∈ c := List.getElem_mem h1
                  have HUS := Lib.hid (under_set HUD.out HMEM.out HLK.out HUK.out HCT.out hxm h2)
                  have HCF := Lib.hid (clause_pos_false HCT.out hxm h2)
                  have hxl := HLK.out _ hxm
                  obtain ⟨x, hx⟩ : ∃ x, x = c[headAt c] := ⟨_, rfl⟩
                  obtain ⟨hd, hhd⟩ : ∃ hd, hd = headAt c := ⟨_, rfl⟩
                  rw [← hx] at hcm HUS HCF h2 hxl
                  rw [← hhd] at HIX hcm h1
                  have hx0 : 0 < x := by simpa [isPos] using h2
                  have hxL : x ≤ (L : Int) := by unfold absI at hxl; rw [if_neg (by omega)] at hxl; exact hxl.2
                  obtain ⟨m, rfl⟩ : ∃ m : Nat, x = (m : Int) + 1 := ⟨x.toNat - 1, by omega⟩
                  have hmL : m < L := by omega
                  have e2 : ((m : Int) + 1).toNat - 1 = m := by omega
                  rw [e2] at HUS HCF
                  have HFS : Hid (falses (bs.set m true) + 1 = falses bs) := falses_set bs m (by rw [HBL.out]; exact hmL) HCF.out
                  have HFL : Hid (falses (bs.set m true) < falses bs0) := by
                    have h3 := HFS.out
                    rw [Hid]
                    cases t
                    · have := (HT1.out rfl).1
                      rw [← this]; omega
                    · have := HT2.out rfl; omega
                  have fz := HR.out.frozen m
                  have ckm := HR.out.cell hmL
                  have hhdi : (0 : Int) ≤ (hd : Int) := by omega
                  have hhdn : ¬ (hd : Int) < 0 := by omega
                  have hmi : (m : Int) < (L : Int) := by omega
                  clear hx hhd h2 hxm hge kcell hxl hx0 hxL e2
                  go_wp2_with fail
                  refine HCH.out.mono ?_
                  rintro e w' ⟨rfl, rfl⟩
                  go_wp2_with fail
                  refine HIX.out.mono ?_
                  rintro e w' ⟨rfl, rfl⟩
                  go_wp2
                  go_roundw
                  case rel => exact ⟨k + 1, _, true, by omega, by go_num, rfl, HR.out.stored m true, HUS, Lib.hid (fun h => by cases h), Lib.hid (fun _ => HFL.out), HBB.out.setCell (Nat.le_refl _) _⟩
                  case measure => (simp [intOf]; try omega)
              · rw [hct] at HCH
                have HN1 : Hid (t = false → bs = bs0 ∧ ∀ j (hj : j < f.clauses.length), j < k + 1 → clauseTrue bs0 f.clauses[j] = true) := fun ht => by
                  obtain ⟨h1, h2⟩ := HT1.out ht
                  refine ⟨h1, fun j hj h => ?_⟩
                  rcases HGK.out j hj h with h3 | h3
                  · exact h2 j hj h3
                  · rw [h3, ← h1]; exact hct
                clear hct
                go_wp2_with fail
                refine HCH.out.mono ?_
                rintro e w' ⟨rfl, rfl⟩
                go_wp2
                go_roundw
                case rel => exact ⟨k + 1, bs, t, by omega, by go_num, rfl, HR.out, HUD, HN1, HT2, HBB.out⟩
                case measure => (simp [intOf]; try omega)
            · obtain rfl : k = f.clauses.length := by omega
              have HFR := Lib.hid hr.falses
              have HFT2 : Hid (t = false → formTrue bs f.clauses = true) := fun ht => by
                obtain ⟨h1, h2⟩ := HT1.out ht
                rw [form_all]
                intro c hc
                obtain ⟨j, hj, rfl⟩ := List.mem_iff_getElem.1 hc
                rw [h1]; exact h2 j hj hj
              clear hr hb
              go_wp2
              go_roundw
              case rel => exact ⟨bs, t, rfl, HR.out, HUD, HFT2, HBB.out⟩
              case measure =>
                rw [HFR.out, HFA.out]
                cases t
                · simp [mOf]
                · have := HT2.out rfl
                  simp [mOf]; omega
end Go.Proofs.Ytcpbgjnijhcpkaa
