/-
  AllSome and FirstMove in the program: contracts.
-/
import Derived.Test.YtcpbgjnijhcpkaaTurns
import Derived.Test.YtcpbgjnijhcpkaaStepB
namespace Go.Proofs.Ytcpbgjnijhcpkaa
open Go.RowKit
set_option linter.unusedVariables false
set_option maxRecDepth 100000

set_option maxHeartbeats 2000000 in
set_option maxRecDepth 100000 in
theorem turns_any (Lz : Int) (cs : List (List Int)) (bs : List Bool) (hl : LitsAll bs.length cs) (h10 : bs.length ≤ 10) (hn : cs.length ≤ 1048576) (d : Nat) :
    ∀ (w : World) (u va vb : Value) (begin : List Bool) (l h l' h' l2 h2 : Nat), begin.length + d = bs.length → Intss w l h u cs → h ≤ w.heap.size → Bools w l' h' va bs → h' ≤ w.heap.size → Bools w l2 h2 vb begin → h2 ≤ w.heap.size →
    Calls Try.prog 88 #[.agg #[.int .i64 Lz, u], va, vb] w fun e w' => e = .returned (.bool (turnR bs.length cs (bs.drop begin.length) (numGo 0 begin))) ∧ Below w.heap.size w w' := by
  induction d with
  | zero =>
    intro w u va vb begin l h l' h' l2 h2 hk hu hh hv hh' hb hh2
    obtain ⟨ba, bc, rfl, _⟩ := hb.out
    obtain ⟨aa, ac, rfl, _⟩ := hv.out
    have hk' : begin.length = bs.length := by omega
    obtain ⟨W, hW⟩ : ∃ W, W = w.alloc (.cells #[.int .i64 Lz, u] 26) := ⟨_, rfl⟩
    have hBW : Below w.heap.size w W := by rw [hW]; exact alloc_below _ _
    have hsW : W.heap.size = w.heap.size + 1 := by rw [hW]; simp
    have hbx : BoxF W w.heap.size Lz u := by rw [hW]; exact BoxF.new _ _ _ _
    have HM := Lib.hid (holds_any Lz u _ cs begin W (hu.below hBW hh) (hb.below hBW hh2) (by omega) (by omega) (by rw [hk']; exact hl) (by omega) hn)
    have HE : Hid (turnR bs.length cs (bs.drop begin.length) (numGo 0 begin) = formTrue begin cs) := by
      rw [Hid, drop_len _ _ (by omega), turnR, ← hk', valuesN_numGo]
    have c0 := hbx.c0
    have c1 := hbx.c1
    have heq : ((begin.length : Int) == (bs.length : Int)) = true := by simp; omega
    clear hbx hu hv hb hl hk hk'
    go_enter Try.func88, Try.ntmps88
    go_wp2_with fail
    rw [← hW]
    clear hW
    go_wp2_with fail
    refine HM.out.mono ?_
    rintro e w2 ⟨rfl, hb2⟩
    go_wp2
    go_ret
    exact ⟨ret_bool HE.out.symm, hBW.trans (hb2.mono (by omega))⟩
  | succ d ih =>
    intro w u va vb begin l h l' h' l2 h2 hk hu hh hv hh' hb hh2
    obtain ⟨ba, bc, rfl, _⟩ := hb.out
    obtain ⟨aa, ac, rfl, ac1, ac2, ad⟩ := hv.out
    obtain ⟨ua, uc, V, rfl, _⟩ := hu.out
    have hkl : begin.length < bs.length := by omega
    obtain ⟨W, hW⟩ : ∃ W, W = w.alloc (.cells #[.int .i64 Lz, .slice ua cs.length uc] 26) := ⟨_, rfl⟩
    have hBW : Below w.heap.size w W := by rw [hW]; exact alloc_below _ _
    have hsW : W.heap.size = w.heap.size + 1 := by rw [hW]; simp
    have hbx : BoxF W w.heap.size Lz (.slice ua cs.length uc) := by rw [hW]; exact BoxF.new _ _ _ _
    have HU := Lib.hid (hu.below hBW hh)
    have HV := Lib.hid (hv.below hBW hh')
    have HBG := Lib.hid (hb.below hBW hh2)
    have HB := Lib.hid hbx
    have HD := Lib.hid (drop_cons bs begin.length hkl)
    rcases ad with ad | ⟨b, off, rfl, hb1, hbb2, hbb3, hcell⟩
    · rw [ad] at hkl; simp at hkl
    have HCK : Hid (W.cell? ⟨b, off + begin.length, none⟩ = some (.bool bs[begin.length])) := by
      rw [Hid, hBW.cell (p := ⟨b, off + begin.length, none⟩) (show b < w.heap.size by omega)]
      have := hcell begin.length hkl; simpa [List.getD, hkl] using this
    have hne : ((begin.length : Int) == (bs.length : Int)) = false := by simp; omega
    have HR : Hid (turnR bs.length cs (bs.drop begin.length) (numGo 0 begin) = if bs[begin.length] then turnR bs.length cs (bs.drop (begin.length + 1)) (2 * numGo 0 begin + false.toNat) && turnR bs.length cs (bs.drop (begin.length + 1)) (2 * numGo 0 begin + true.toNat) else turnR bs.length cs (bs.drop (begin.length + 1)) (2 * numGo 0 begin + false.toNat) || turnR bs.length cs (bs.drop (begin.length + 1)) (2 * numGo 0 begin + true.toNat)) := by rw [Hid, HD.out]; rfl
    obtain ⟨T1, hT1⟩ : ∃ T : Bool, T = turnR bs.length cs (bs.drop (begin.length + 1)) (2 * numGo 0 begin + false.toNat) := ⟨_, rfl⟩
    obtain ⟨T2, hT2⟩ : ∃ T : Bool, T = turnR bs.length cs (bs.drop (begin.length + 1)) (2 * numGo 0 begin + true.toNat) := ⟨_, rfl⟩
    have hi : ∀ (x : Bool) (w' : World) (v2 : Value) (l3 h3 : Nat), Below W.heap.size W w' → Bools w' l3 h3 v2 (begin ++ [x]) → h3 ≤ w'.heap.size → Calls Try.prog 88 #[.agg #[.int .i64 Lz, .slice ua cs.length uc], .slice (some ⟨b, off, none⟩) bs.length ac, v2] w' fun e w'' => e = .returned (.bool (if x = true then T2 else T1)) ∧ Below w'.heap.size w' w'' := fun x w' v2 l3 h3 hbw hv2 hh3 => by
      have hz := hbw.size
      have := ih w' _ _ v2 (begin ++ [x]) l h l' h' l3 h3 (by simp; omega) (HU.out.below hbw (by omega)) (by omega) (HV.out.below hbw (by omega)) (by omega) hv2 hh3
      rw [List.length_append, numGo_append, show begin.length + [x].length = begin.length + 1 from rfl] at this
      cases x
      · rw [← hT1] at this; exact this
      · rw [← hT2] at this; exact this
    have HI := Lib.hid hi
    rw [← hT1, ← hT2] at HR
    have hbl : begin.length ≤ 10 := by omega
    clear hu hv hb hcell hl ih hi hk hbx hT1 hT2
    go_enter Try.func88, Try.ntmps88
    go_wp2_with fail
    rw [← hW]
    clear hW
    go_wp2_with fail
    have hK : Hid (∀ w' : World, Below W.heap.size W w' → w'.cell? ⟨w.heap.size, 0, none⟩ = some (.int .i64 Lz) ∧ w'.cell? ⟨w.heap.size, 1, none⟩ = some (.slice ua cs.length uc)) := fun w' hw' => ⟨(HB.out.below hw' HB.out.lt).c0, (HB.out.below hw' HB.out.lt).c1⟩
    have hrefl : Below W.heap.size W W := Below.refl _ _
    have hsW1 : W.heap.size ≤ w.heap.size + 1 := by omega
    have hsW2 : w.heap.size + 1 ≤ W.heap.size := by omega
    clear hsW
    have hda : Drew W W.drew := ⟨1, rfl⟩
    have hzza := hrefl.size
    have haa : Below W.heap.size W (W.alloc (.cells #[.bool false] 4)) := alloc_below _ _
    have haea : Drew (W.alloc (.cells #[.bool false] 4)) (W.alloc (.cells #[.bool false] 4)).drew := ⟨1, rfl⟩
    have hada : Below W.heap.size W (W.alloc (.cells #[.bool false] 4)).drew := haa.trans (haea.below _)
    have hzda : (W.alloc (.cells #[.bool false] 4)).drew.heap.size = W.heap.size + 1 := by rw [haea.heap]; simp
    have HAa : Hid (Below W.heap.size W (W.alloc (.cells #[.bool false] 4)).drew) := hrefl.trans (hada.mono (by omega))
    have HDa : Hid (Below W.heap.size W W.drew) := hrefl.trans (hda.below _)
    have HG1a := Lib.hid ((HBG.out.below hrefl (by omega)).drew hda)
    have HG2a := Lib.hid ((HBG.out.below hrefl (by omega)).below hada (by omega))
    have HOa := Lib.hid ((oneBool W false 4).drew haea)
    clear haa haea hada
    go_region_held3 (fun w' => w'.cell? ⟨w.heap.size, 0, none⟩ = some (.int .i64 Lz) ∧ w'.cell? ⟨w.heap.size, 1, none⟩ = some (.slice ua cs.length uc)) (first | exact hK.out _ HDa.out | exact hK.out _ HAa.out | exact hK.out _ hfa | exact hK.out _ hea | exact hK.out _ hca | exact hK.out _ hcaa) (first | ((refine step_appBs (by rfl) _ _ (by rfl) _ begin (by rfl) (hoca.alloc _) _ [false] (by rfl) (oneBool wca false _) (by simp; omega) (by simp; omega) ?_; intro v2 wea hoea hsea hzea _; have hea := hcaa.trans (hsea.below (B := W.heap.size) (by omega) (by simp; omega)))) | ((refine step_appBs (by rfl) _ _ (by rfl) _ begin (by rfl) hoca _ [false] (by rfl) honea (by simp; omega) (by omega) ?_; intro v2 wea hoea hsea hzea _; have hea := hca.trans (hsea.below (B := W.heap.size) (by omega) (by omega)))) | (go_at_call 119; refine (cloneB_any _ begin W.drew HG1a.out (by rw [hda.heap]; omega) (by omega)).mono ?_; rintro e wca ⟨uca, rfl, hoca, hcca⟩; have hzca := hcca.size; rw [hda.heap] at hzca hoca; have hca := HDa.out.trans (hcca.mono (by rw [hda.heap]; omega)); have hcaa := hca.alloc (show W.heap.size ≤ wca.heap.size by omega) (.cells #[.bool false] 4); obtain ⟨saa, sca, rfl⟩ := hoca.shape) | (go_at_call 119; refine (cloneB_any _ begin (W.alloc (.cells #[.bool false] 4)).drew HG2a.out (by omega) (by omega)).mono ?_; rintro e wca ⟨uca, rfl, hoca, hcca⟩; have hzca := hcca.size; rw [hzda] at hzca hoca; have hca := HAa.out.trans (hcca.mono (by omega)); have honea := HOa.out.below hcca (by omega); obtain ⟨saa, sca, rfl⟩ := hoca.shape) | (go_at_call 88; refine (HI.out false wea _ _ _ hea hoea.rd (Nat.le_refl _)).mono ?_; rintro e wfa ⟨rfl, hffa⟩; have hfa := hea.trans (hffa.mono hea.size)))
    all_goals
      obtain ⟨wm, hwm⟩ : ∃ wm : World, wm = wfa := ⟨_, rfl⟩
      rw [← hwm] at hfa
      rw [← hwm]
      clear hwm
      go_wp2_with fail
      have hdb : Drew wm wm.drew := ⟨1, rfl⟩
      have hzzb := hfa.size
      have hab : Below wm.heap.size wm (wm.alloc (.cells #[.bool true] 4)) := alloc_below _ _
      have haeb : Drew (wm.alloc (.cells #[.bool true] 4)) (wm.alloc (.cells #[.bool true] 4)).drew := ⟨1, rfl⟩
      have hadb : Below wm.heap.size wm (wm.alloc (.cells #[.bool true] 4)).drew := hab.trans (haeb.below _)
      have hzdb : (wm.alloc (.cells #[.bool true] 4)).drew.heap.size = wm.heap.size + 1 := by rw [haeb.heap]; simp
      have HAb : Hid (Below W.heap.size W (wm.alloc (.cells #[.bool true] 4)).drew) := hfa.trans (hadb.mono (by omega))
      have HDb : Hid (Below W.heap.size W wm.drew) := hfa.trans (hdb.below _)
      have HG1b := Lib.hid ((HBG.out.below hfa (by omega)).drew hdb)
      have HG2b := Lib.hid ((HBG.out.below hfa (by omega)).below hadb (by omega))
      have HOb := Lib.hid ((oneBool wm true 4).drew haeb)
      clear hab haeb hadb
      go_region_held3 (fun w' => w'.cell? ⟨w.heap.size, 0, none⟩ = some (.int .i64 Lz) ∧ w'.cell? ⟨w.heap.size, 1, none⟩ = some (.slice ua cs.length uc)) (first | exact hK.out _ HDb.out | exact hK.out _ HAb.out | exact hK.out _ hfb | exact hK.out _ heb | exact hK.out _ hcb | exact hK.out _ hcab) (first | ((refine step_appBs (by rfl) _ _ (by rfl) _ begin (by rfl) (hocb.alloc _) _ [true] (by rfl) (oneBool wcb true _) (by simp; omega) (by simp; omega) ?_; intro v2 web hoeb hseb hzeb _; have heb := hcab.trans (hseb.below (B := W.heap.size) (by omega) (by simp; omega)))) | ((refine step_appBs (by rfl) _ _ (by rfl) _ begin (by rfl) hocb _ [true] (by rfl) honeb (by simp; omega) (by omega) ?_; intro v2 web hoeb hseb hzeb _; have heb := hcb.trans (hseb.below (B := W.heap.size) (by omega) (by omega)))) | (go_at_call 119; refine (cloneB_any _ begin wm.drew HG1b.out (by rw [hdb.heap]; omega) (by omega)).mono ?_; rintro e wcb ⟨ucb, rfl, hocb, hccb⟩; have hzcb := hccb.size; rw [hdb.heap] at hzcb hocb; have hcb := HDb.out.trans (hccb.mono (by rw [hdb.heap]; omega)); have hcab := hcb.alloc (show W.heap.size ≤ wcb.heap.size by omega) (.cells #[.bool true] 4); obtain ⟨sab, scb, rfl⟩ := hocb.shape) | (go_at_call 119; refine (cloneB_any _ begin (wm.alloc (.cells #[.bool true] 4)).drew HG2b.out (by omega) (by omega)).mono ?_; rintro e wcb ⟨ucb, rfl, hocb, hccb⟩; have hzcb := hccb.size; rw [hzdb] at hzcb hocb; have hcb := HAb.out.trans (hccb.mono (by omega)); have honeb := HOb.out.below hccb (by omega); obtain ⟨sab, scb, rfl⟩ := hocb.shape) | (go_at_call 88; refine (HI.out true web _ _ _ heb hoeb.rd (Nat.le_refl _)).mono ?_; rintro e wfb ⟨rfl, hffb⟩; have hfb := heb.trans (hffb.mono heb.size)))
      all_goals
        have hck := HCK.out
        rw [← hfb.cell (p := ⟨b, off + begin.length, none⟩) (show b < W.heap.size by omega)] at hck
        cases hbk : bs[begin.length] <;> cases T1
        all_goals
          rw [hbk] at hck HR
          go_wp2
          go_ret
          exact ⟨ret_bool (by rw [HR.out]; first | rfl | simp), hBW.trans (hfb.mono (by omega))⟩
set_option maxHeartbeats 1600000 in
set_option maxRecDepth 100000 in
theorem areTurns_any (w : World) {l h l' h' : Nat} (v : Value) (f : FormD) (v' : Value) (bs : List Bool) (hv : FormR w l h v f) (hh : h ≤ w.heap.size) (hz : SmallII f.clauses) (hv' : Bools w l' h' v' bs) (hh' : h' ≤ w.heap.size) (hz' : bs.length ≤ 1048576) :
    Calls Try.prog 87 #[v, v'] w fun e w' => e = .returned (.bool (isTurns f bs)) ∧ Below w.heap.size w w' := by
  obtain ⟨u, rfl, hu⟩ := hv.ex
  obtain ⟨W, hW⟩ : ∃ W, W = w.alloc (.cells #[.int .i64 f.letters, u] 26) := ⟨_, rfl⟩
  have hBW : Below w.heap.size w W := by rw [hW]; exact alloc_below _ _
  have hsW : W.heap.size = w.heap.size + 1 := by rw [hW]; simp
  have hbx : BoxF W w.heap.size f.letters u := by rw [hW]; exact BoxF.new _ _ _ _
  have hf := hv.below hBW hh
  have hv2 := hv'.below hBW hh'
  have hu2 := hu.below hBW hh
  obtain ⟨a, cap, e, _⟩ := hv2.out
  subst e
  have hdD : Drew W W.drew := ⟨1, rfl⟩
  have hK : Hid (∀ w' : World, Below W.heap.size W w' → w'.cell? ⟨w.heap.size, 0, none⟩ = some (.int .i64 f.letters) ∧ w'.cell? ⟨w.heap.size, 1, none⟩ = some u) := fun w' hb => ⟨(hbx.below hb hbx.lt).c0, (hbx.below hb hbx.lt).c1⟩
  have HF := Lib.hid hf
  have kL := hv.rng
  clear hu2 hv2 hf hbx hu hv hv'
  cases hval : validForm f
  · go_enter Try.func87, Try.ntmps87
    go_wp2_with fail
    rw [← hW]
    clear hW
    have kk := hK.out _ (hdD.below _)
    have k0 := kk.1
    have k1 := kk.2
    clear hK kk
    refine wp_region_any (by kernel_rfl) ?_
    try (change wpAny _ _ _ _ _ _ _ (World.drew _))
    refine wpAny_ready (rs := [0]) (by kernel_rfl) (by simp) ?_
    refine AllReady.cons rfl (fun K hK => ?_) AllReady.nil
    go_simp
    refine hK _ _ ?_
    clear hK K
    refine wpAny_ready (rs := [1]) (by kernel_rfl) (by simp) ?_
    refine AllReady.cons rfl (fun K hK => ?_) AllReady.nil
    go_simp
    refine (implValidForm_any W.drew _ _ (HF.out.drew hdD) (by rw [hdD.heap]; omega) hz).mono ?_
    rintro e w2 ⟨rfl, hb2'⟩
    have hb2 : Below W.heap.size W w2 := (hdD.below _).trans hb2'
    go_wp2_with fail
    refine wpAny_ready (rs := [2]) (by kernel_rfl) (by simp) ?_
    refine AllReady.cons rfl (fun K hK => ?_) AllReady.nil
    go_simp
    refine hK _ _ ?_
    clear hK K
    refine wpAny_take (i := 3) (v := undef) rfl (by kernel_rfl) (by kernel_rfl) (by kernel_rfl) (fun _ _ _ h => h) (Or.inr ⟨by rfl, rfl⟩) ?_
    refine wpAny_take (i := 4) (v := undef) rfl (by kernel_rfl) (by kernel_rfl) (by kernel_rfl) (fun _ _ _ h => h) (Or.inr ⟨by rfl, rfl⟩) ?_
    refine wpAny_take (i := 5) (v := undef) rfl (by kernel_rfl) (by kernel_rfl) (by kernel_rfl) (fun _ _ _ h => h) (Or.inr ⟨by rfl, rfl⟩) ?_
    refine wpAny_take (i := 6) (v := undef) rfl (by kernel_rfl) (by kernel_rfl) (by kernel_rfl) (fun _ _ _ h => h) (Or.inr ⟨by rfl, rfl⟩) ?_
    refine wpAny_take (i := 7) (v := undef) rfl (by kernel_rfl) (by kernel_rfl) (by kernel_rfl) (fun _ _ _ h => h) (Or.inr ⟨by rfl, rfl⟩) ?_
    refine wpAny_take (i := 8) (v := undef) rfl (by kernel_rfl) (by kernel_rfl) (by kernel_rfl) (fun _ _ _ h => h) (Or.inr ⟨by rfl, rfl⟩) ?_
    refine wpAny_ready (rs := [9]) (by kernel_rfl) (by simp) ?_
    refine AllReady.cons rfl (fun K hK => ?_) AllReady.nil
    go_simp
    refine hK _ _ ?_
    clear hK K
    refine wpAny_ready (rs := [10]) (by kernel_rfl) (by simp) ?_
    refine AllReady.cons rfl (fun K hK => ?_) AllReady.nil
    go_simp
    refine hK _ _ ?_
    clear hK K
    refine wpAny_done (by kernel_rfl) ?_ _
    go_wp2_with fail
    go_ret
    exact ⟨ret_bool (by simp [isTurns, hval]), hBW.trans (hb2.mono hBW.size)⟩
  cases hq : decide ((bs.length : Int) = f.letters)
  all_goals
    go_enter Try.func87, Try.ntmps87
    go_wp2_with fail
    rw [← hW]
    clear hW
    go_region_held3 (fun w' => w'.cell? ⟨w.heap.size, 0, none⟩ = some (.int .i64 f.letters) ∧ w'.cell? ⟨w.heap.size, 1, none⟩ = some u) (first | exact hK.out _ (hdD.below _) | exact hK.out _ hb2) (first | (go_at_call 25; refine (implValidForm_any W.drew _ _ (HF.out.drew hdD) (by rw [hdD.heap]; omega) hz).mono ?_; rintro e w2 ⟨rfl, hb2'⟩; have hb2 : Below W.heap.size W w2 := (hdD.below _).trans hb2') | (go_at_call 85; refine (size_any _ (by omega) _).mono ?_; rintro e w' ⟨rfl, rfl⟩))
  · have hne : ((bs.length : Int) == f.letters) = false := by simpa using hq
    go_wp2_with fail
    go_ret
    exact ⟨ret_bool (by simp [isTurns, hval, of_decide_eq_false hq]), hBW.trans (hb2.mono hBW.size)⟩
  · have hne : ((bs.length : Int) == f.letters) = true := by simpa using hq
    go_wp2_with fail
    go_ret
    exact ⟨ret_bool (by simp [isTurns, hval, of_decide_eq_true hq]), hBW.trans (hb2.mono hBW.size)⟩
theorem isTurns_out {f : FormD} {bs : List Bool} (h : isTurns f bs = true) : validForm f = true ∧ (bs.length : Int) = f.letters := by
  simpa [isTurns] using h
set_option maxHeartbeats 1600000 in
set_option maxRecDepth 100000 in
theorem implAllSome_any (w : World) {l h l' h' : Nat} (v : Value) (f : FormD) (v' : Value) (bs : List Bool) (hv : FormR w l h v f) (hh : h ≤ w.heap.size) (hz : SmallII f.clauses) (hv' : Bools w l' h' v' bs) (hh' : h' ≤ w.heap.size) (hz' : bs.length ≤ 1048576) :
    Calls Try.prog 30 #[v, v'] w fun e w' => e = .returned (.tuple #[.bool (allSome f bs).1, .bool (allSome f bs).2]) ∧ Below w.heap.size w w' := by
  obtain ⟨u, rfl, hu⟩ := hv.ex
  obtain ⟨ua, uc, V, rfl, _⟩ := hu.out
  obtain ⟨ba, bc, rfl, _⟩ := hv'.out
  obtain ⟨W, hW⟩ : ∃ W, W = w.alloc (.cells #[.int .i64 f.letters, .slice ua f.clauses.length uc] 26) := ⟨_, rfl⟩
  have hBW : Below w.heap.size w W := by rw [hW]; exact alloc_below _ _
  have hsW : W.heap.size = w.heap.size + 1 := by rw [hW]; simp
  have hbx : BoxF W w.heap.size f.letters (.slice ua f.clauses.length uc) := by rw [hW]; exact BoxF.new _ _ _ _
  have HU := Lib.hid (hu.below hBW hh)
  have HF := Lib.hid (hv.below hBW hh)
  have HV := Lib.hid (hv'.below hBW hh')
  have HB := Lib.hid hbx
  have HZ := Lib.hid hz
  have hcl : f.clauses.length ≤ 1048576 := hz.1
  have k0 := hbx.c0
  have k1 := hbx.c1
  clear hbx hu hv hv'
  go_enter Try.func30, Try.ntmps30
  go_wp2_with fail
  rw [← hW]
  clear hW
  go_wp2_with fail
  refine (areTurns_any W _ f _ bs HF.out (by omega) HZ.out HV.out (by omega) hz').mono ?_
  rintro e w2 ⟨rfl, hb2⟩
  have hs2 := hb2.size
  have hB2 := HB.out.below hb2 HB.out.lt
  have q0 := hB2.c0
  have q1 := hB2.c1
  clear k0 k1
  cases ht : isTurns f bs
  · have HE := Lib.hid (show allSome f bs = (false, false) by simp [allSome, ht])
    go_wp2
    go_ret2
    exact ⟨by rw [HE.out]; rfl, hBW.trans (hb2.mono hBW.size)⟩
  · obtain ⟨hval, hq⟩ := isTurns_out ht
    have HE := Lib.hid (show allSome f bs = (turnR bs.length f.clauses bs 0, true) by simp [allSome, ht])
    have hL10 : bs.length ≤ 10 := by have := (validForm_bounds hval).1; omega
    have HT := Lib.hid (turns_any f.letters f.clauses bs (litsAll_of_valid hq.symm hval) hL10 hcl bs.length w2 _ _ (.slice none 0 0) [] _ _ _ _ 0 0 (by simp) (HU.out.below hb2 (by omega)) (by omega) (HV.out.below hb2 (by omega)) (by omega) (Bools.nil _ _ _) (by omega))
    rw [List.length_nil, List.drop_zero] at HT
    have HN : Hid (numGo 0 [] = 0) := rfl
    rw [HN.out] at HT
    clear hval hq ht
    go_wp2_with fail
    refine HT.out.mono ?_
    rintro e w3 ⟨rfl, hb3⟩
    go_wp2
    go_ret2
    exact ⟨by rw [HE.out]; rfl, hBW.trans ((hb2.trans (hb3.mono (by omega))).mono hBW.size)⟩
set_option maxHeartbeats 1600000 in
set_option maxRecDepth 100000 in
theorem implFirstMove_any (w : World) {l h l' h' : Nat} (v : Value) (f : FormD) (v' : Value) (bs : List Bool) (hv : FormR w l h v f) (hh : h ≤ w.heap.size) (hz : SmallII f.clauses) (hv' : Bools w l' h' v' bs) (hh' : h' ≤ w.heap.size) (hz' : bs.length ≤ 1048576) :
    Calls Try.prog 32 #[v, v'] w fun e w' => e = .returned (.tuple #[.bool (firstMove f bs).1, .bool (firstMove f bs).2]) ∧ Below w.heap.size w w' := by
  obtain ⟨u, rfl, hu⟩ := hv.ex
  obtain ⟨ua, uc, V, rfl, _⟩ := hu.out
  obtain ⟨ba, bc, rfl, _⟩ := hv'.out
  obtain ⟨W, hW⟩ : ∃ W, W = w.alloc (.cells #[.int .i64 f.letters, .slice ua f.clauses.length uc] 26) := ⟨_, rfl⟩
  have hBW : Below w.heap.size w W := by rw [hW]; exact alloc_below _ _
  have hsW : W.heap.size = w.heap.size + 1 := by rw [hW]; simp
  have hbx : BoxF W w.heap.size f.letters (.slice ua f.clauses.length uc) := by rw [hW]; exact BoxF.new _ _ _ _
  have HU := Lib.hid (hu.below hBW hh)
  have HF := Lib.hid (hv.below hBW hh)
  have HV := Lib.hid (hv'.below hBW hh')
  have HB := Lib.hid hbx
  have HZ := Lib.hid hz
  have hcl : f.clauses.length ≤ 1048576 := hz.1
  have k0 := hbx.c0
  have k1 := hbx.c1
  clear hbx hu hv hv'
  go_enter Try.func32, Try.ntmps32
  go_wp2_with fail
  rw [← hW]
  clear hW
  go_wp2_with fail
  refine (areTurns_any W _ f _ bs HF.out (by omega) HZ.out HV.out (by omega) hz').mono ?_
  rintro e w2 ⟨rfl, hb2⟩
  have hs2 := hb2.size
  have hB2 := HB.out.below hb2 HB.out.lt
  have q0 := hB2.c0
  have q1 := hB2.c1
  clear k0 k1
  cases ht : isTurns f bs
  · have HE := Lib.hid (show firstMove f bs = (false, false) by simp [firstMove, ht])
    go_wp2
    go_ret2
    exact ⟨by rw [HE.out]; rfl, hBW.trans (hb2.mono hBW.size)⟩
  · obtain ⟨hval, hq⟩ := isTurns_out ht
    have HFM : Hid (firstMove f bs = if (!bs.getD 0 false && turnR bs.length f.clauses bs 0) = true then (!turnR bs.length f.clauses (bs.drop 1) 0, true) else (false, false)) := by simp [Hid, firstMove, ht]
    have hL10 : bs.length ≤ 10 := by have := (validForm_bounds hval).1; omega
    have hL1 : 0 < bs.length := by have := (validForm_bounds hval).1; omega
    have hT := turns_any f.letters f.clauses bs (litsAll_of_valid hq.symm hval) hL10 hcl bs.length w2 _ _ (.slice none 0 0) [] _ _ _ _ 0 0 (by simp) (HU.out.below hb2 (by omega)) (by omega) (HV.out.below hb2 (by omega)) (by omega) (Bools.nil _ _ _) (by omega)
    rw [List.length_nil, List.drop_zero, show numGo 0 [] = 0 from rfl] at hT
    have HT := Lib.hid hT
    obtain ⟨T1, hT1⟩ : ∃ T : Bool, T = turnR bs.length f.clauses (bs.drop 1) 0 := ⟨_, rfl⟩
    have h2 : ∀ (w' : World) (v2 : Value) (l3 h3 : Nat), Below w2.heap.size w2 w' → Bools w' l3 h3 v2 [false] → h3 ≤ w'.heap.size → Calls Try.prog 88 #[.agg #[.int .i64 f.letters, .slice ua f.clauses.length uc], .slice ba bs.length bc, v2] w' fun e w'' => e = .returned (.bool T1) ∧ Below w'.heap.size w' w'' := fun w' v2 l3 h3 hbw hv2 hh3 => by
      have hz3 := hbw.size
      have := turns_any f.letters f.clauses bs (litsAll_of_valid hq.symm hval) hL10 hcl (bs.length - 1) w' _ _ v2 [false] _ _ _ _ l3 h3 (by simp; omega) ((HU.out.below hb2 (by omega)).below hbw (by omega)) (by omega) ((HV.out.below hb2 (by omega)).below hbw (by omega)) (by omega) hv2 hh3
      rw [show [false].length = 1 from rfl, show numGo 0 [false] = 0 from rfl, ← hT1] at this
      exact this
    have HT2 := Lib.hid h2
    rw [← hT1] at HFM
    obtain ⟨a', c', e', _, _, hd⟩ := (HV.out.below hb2 (by omega)).out
    simp only [Value.slice.injEq] at e'
    obtain ⟨rfl, _, rfl⟩ := e'
    rcases hd with hd | ⟨b, off, rfl, hb1, hbb2, hbb3, hcell⟩
    · rw [hd] at hL1; simp at hL1
    have hck : w2.cell? ⟨b, off, none⟩ = some (.bool (bs.getD 0 false)) := hcell 0 hL1
    clear hval hq ht hT h2 hT1 hcell hB2
    cases h0 : bs.getD 0 false
    case true =>
      rw [h0] at hck
      have HE := Lib.hid (show firstMove f bs = (false, false) by rw [HFM.out, h0]; rfl)
      go_wp2
      go_ret2
      exact ⟨by rw [HE.out]; rfl, hBW.trans (hb2.mono hBW.size)⟩
    rw [h0] at hck
    cases h1 : turnR bs.length f.clauses bs 0
    · have HE := Lib.hid (show firstMove f bs = (false, false) by rw [HFM.out, h0, h1]; rfl)
      rw [h1] at HT
      go_wp2_with fail
      refine HT.out.mono ?_
      rintro e w3 ⟨rfl, hb3⟩
      go_wp2
      go_ret2
      exact ⟨by rw [HE.out]; rfl, hBW.trans ((hb2.trans (hb3.mono (by omega))).mono hBW.size)⟩
    · have HE := Lib.hid (show firstMove f bs = (!T1, true) by rw [HFM.out, h0, h1]; rfl)
      rw [h1] at HT
      go_wp2_with fail
      refine HT.out.mono ?_
      rintro e w3 ⟨rfl, hb3⟩
      have hs3 := hb3.size
      have hB3 := (HB.out.below hb2 HB.out.lt).below hb3 (by omega)
      have p0 := hB3.c0
      have p1 := hB3.c1
      have ha3 : Below w3.heap.size w3 (w3.alloc (.cells #[.bool false] 4)) := alloc_below _ _
      have HO3 := Lib.hid (oneBool w3 false 4)
      have HA3 := Lib.hid (hb3.trans (ha3.mono (by omega)))
      have HS3 := Lib.hid ha3
      clear hB3 q0 q1 ha3
      go_wp2_with fail
      refine (HT2.out _ _ _ _ HA3.out HO3.out (by simp)).mono ?_
      rintro e w4 ⟨rfl, hb4⟩
      go_wp2
      go_ret2
      exact ⟨by rw [HE.out]; rfl, hBW.trans ((hb2.trans ((HA3.out.trans (hb4.mono HA3.out.size)).mono (by omega))).mono hBW.size)⟩
end Go.Proofs.Ytcpbgjnijhcpkaa
