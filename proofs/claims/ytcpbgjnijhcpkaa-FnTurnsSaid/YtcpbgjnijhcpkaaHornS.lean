/-
  HornModel: contracts in the reference.
-/
import Derived.Test.YtcpbgjnijhcpkaaHornP
namespace Go.Proofs.Ytcpbgjnijhcpkaa
open Go.RowKit
set_option linter.unusedVariables false
set_option maxRecDepth 100000

theorem pos_take_succ {c : List Int} {m : Nat} (h : m < c.length) : (c.take (m + 1)).countP isPos = (c.take m).countP isPos + (if isPos c[m] then 1 else 0) := by
  rw [List.take_succ_eq_append_getElem h, List.countP_append, List.countP_singleton]
theorem horn_no {f : FormD} (h : okHorn f = false) : hornF f = ([], false) := by rw [hornF, h]; rfl
theorem horn_none {f : FormD} {L : Nat} (hL : f.letters.toNat = L) (h : (meetF L f.clauses).2 = false) : hornF f = ([], false) := by rw [hornF, hL, h, Bool.and_false]; rfl
theorem horn_yes {f : FormD} {L : Nat} (hL : f.letters.toNat = L) (ho : okHorn f = true) (h : (meetF L f.clauses).2 = true) : hornF f = (valuesN L (meetF L f.clauses).1, true) := by rw [hornF, hL, ho, h]; rfl
set_option maxHeartbeats 2000000 in
set_option maxRecDepth 100000 in
theorem specHornModel_any (w : World) {l h : Nat} (v : Value) (f : FormD) (hv : FormR w l h v f) (hh : h ≤ w.heap.size) (hz : SmallII f.clauses) :
    Calls Try.prog 35 #[v] w fun e w' => ∃ r, e = .returned (.tuple #[r, .bool (hornF f).2]) ∧ OwnB w' w.heap.size w'.heap.size r (hornF f).1 ∧ Below w.heap.size w w' := by
  obtain ⟨u, rfl, hu⟩ := hv.ex
  have kL := hv.rng
  obtain ⟨ca, ccap, CV, rfl, cc1, cc2, CR, cd⟩ := hu.out
  obtain ⟨W, hW⟩ : ∃ W, W = w.alloc (.cells #[.int .i64 f.letters, .slice ca f.clauses.length ccap] 26) := ⟨_, rfl⟩
  have hBW : Below w.heap.size w W := by rw [hW]; exact alloc_below _ _
  have hsW : W.heap.size = w.heap.size + 1 := by rw [hW]; simp
  have hbx : BoxF W w.heap.size f.letters (.slice ca f.clauses.length ccap) := by rw [hW]; exact BoxF.new _ _ _ _
  have CC : Hid (∀ (wx : World) (j : Nat), Below w.heap.size w wx → (hj : j < f.clauses.length) → ∃ b o, ca = some ⟨b, o, none⟩ ∧ wx.cell? ⟨b, o + j, none⟩ = some (CV j) ∧ Ints wx l h (CV j) f.clauses[j]) := fun wx j hb hj => by
    rcases cd with e | ⟨b, o, e, r1, r2, r3, hc⟩
    · rw [e] at hj; simp at hj
    · exact ⟨b, o, e, by rw [hb.cell (p := ⟨b, o + j, none⟩) (show b < w.heap.size by omega)]; exact hc j hj, (CR j hj).below hb hh⟩
  have HU := Lib.hid (hu.below hBW hh)
  have HB := Lib.hid hbx
  have HBW := Lib.hid hBW
  have hW1 : w.heap.size < W.heap.size := by omega
  have hhW : h ≤ W.heap.size := by omega
  have HZ := Lib.hid hz
  clear hbx hu hv cd CR hBW hsW
  go_enter Try.func35, Try.ntmps35
  go_wp2_with fail
  rw [← hW]
  clear hW
  refine (l05Is_any W _ _ f HB.out.c0 HB.out.c1 hW1 kL HU.out hhW).mono ?_
  rintro e w2 ⟨rfl, hb2⟩
  have hs2 := hb2.size
  have HB2 := Lib.hid (HB.out.below hb2 hW1)
  have HBW2 := Lib.hid (HBW.out.trans (hb2.mono (by omega)))
  have HU2 := Lib.hid (HU.out.below hb2 hhW)
  cases hval : validForm f
  · have HE := Lib.hid (horn_no (f := f) (by rw [okHorn, hval]; rfl))
    clear hb2
    go_wp2
    go_ret2
    exact ⟨_, by rw [HE.out]; rfl, by rw [HE.out]; exact OwnB.nil _ _ _ (Nat.le_refl _), HBW2.out⟩
  obtain ⟨L, hL, hL1, hL2⟩ := lettersN hval
  have hLt : f.letters.toNat = L := by omega
  have hcl48 := (validForm_bounds hval).2.1
  have HLA := Lib.hid (litsAll_of_valid hL hval)
  have HOK : Hid (okHorn f = f.clauses.all upsOk) := by rw [Hid, okHorn, hval]; rfl
  have HRG : Hid (∀ c ∈ f.clauses, ∀ x ∈ c, -10 ≤ x ∧ x ≤ 10) := fun c hc x hx => by
    have h1 := HLA.out c hc x hx
    unfold absI at h1
    split at h1 <;> omega
  rw [hL] at HB2
  have HLT := Lib.hid hLt
  have k0 := HB2.out.c0
  have k1 := HB2.out.c1
  clear hval hb2 hLt
  go_wp2_with fail
  go_loop [15] (fun iv => ∃ k : Nat, k ≤ f.clauses.length ∧ iv = .int .i64 k ∧ Hid ((f.clauses.drop k).all upsOk = f.clauses.all upsOk)) (fun iv => f.clauses.length - (intOf iv).toNat)
  case atStart => exact ⟨0, Nat.zero_le _, rfl, Lib.hid rfl⟩
  case round =>
    obtain ⟨k, hk, rfl, H⟩ := hrel
    by_cases hlt : k < f.clauses.length
    · obtain ⟨cb, co, rfl, cck, cri⟩ := CC.out w2 k HBW2.out hlt
      obtain ⟨ka, kc, hke, _, _, kd⟩ := cri.out
      rw [hke] at cck
      have hzk := HZ.out.row hlt
      have HD := Lib.hid (drop_cons f.clauses k hlt)
      have HR := Lib.hid (HRG.out f.clauses[k] (List.getElem_mem hlt))
      obtain ⟨c, hc⟩ : ∃ c, c = f.clauses[k] := ⟨_, rfl⟩
      rw [← hc] at cck hzk HD HR kd
      clear hke cri hc
      go_wp2_with fail
      go_loop [5, 24] (fun nv mv => ∃ (m n : Nat), m ≤ c.length ∧ mv = .int .i64 m ∧ nv = .int .i64 n ∧ n ≤ m ∧ Hid (n = (c.take m).countP isPos)) (fun _ mv => c.length - (intOf mv).toNat)
      case atStart => exact ⟨0, 0, Nat.zero_le _, rfl, rfl, Nat.le_refl _, Lib.hid rfl⟩
      case round =>
        obtain ⟨m, n, hm, rfl, rfl, hnm, HN⟩ := hrel
        by_cases hml : m < c.length
        · rcases kd with rfl | ⟨kb, ko, rfl, kb1, kb2, kb3, kcell⟩
          · simp at hml
          have hcm := kcell m hml
          have hge : c.getD m 0 = c[m] := by simp [List.getD, hml]
          rw [hge] at hcm
          have HPS := Lib.hid (pos_take_succ hml)
          obtain ⟨x, hx⟩ : ∃ x, x = c[m] := ⟨_, rfl⟩
          rw [← hx] at hcm HPS
          have HPX : Hid (isPos x = decide (0 < x)) := rfl
          clear kcell hge hx
          by_cases hx0 : 0 < x
          · have hd : decide (0 < x) = true := by simpa using hx0
            have HNX : Hid (n + 1 = (c.take (m + 1)).countP isPos) := by rw [Hid, HPS.out, HPX.out, hd, HN.out]; rfl
            go_wp2
            go_round
            case rel => exact ⟨m + 1, n + 1, by omega, by go_num, by go_num, by omega, HNX⟩
            case measure => (simp [intOf]; try omega)
          · have hd : decide (0 < x) = false := by simpa using hx0
            have HNX : Hid (n = (c.take (m + 1)).countP isPos) := by rw [Hid, HPS.out, HPX.out, hd, HN.out]; rfl
            go_wp2
            go_round
            case rel => exact ⟨m + 1, n, by omega, by go_num, rfl, by omega, HNX⟩
            case measure => (simp [intOf]; try omega)
        · obtain rfl : m = c.length := by omega
          have hcn : c.countP isPos = n := by have := HN.out; rw [List.take_length] at this; exact this.symm
          have HUP : Hid (upsOk c = decide (n ≤ 1)) := by rw [Hid, upsOk, hcn]
          clear HN hcn
          by_cases hn1 : n ≤ 1
          · have hnd : ¬ (1 : Nat) < n := by omega
            have HN2 : Hid ((f.clauses.drop (k + 1)).all upsOk = f.clauses.all upsOk) := by rw [Hid, ← H.out, HD.out, List.all_cons, HUP.out, decide_eq_true hn1, Bool.true_and]
            go_wp2
            go_round
            case rel => exact ⟨k + 1, by omega, by go_num, HN2⟩
            case measure => (simp [intOf]; try omega)
          · have hnd : (1 : Nat) < n := by omega
            have HE : Hid (hornF f = ([], false)) := horn_no (by rw [HOK.out, ← H.out, HD.out, List.all_cons, HUP.out, decide_eq_false hn1, Bool.false_and])
            clear hn1
            go_wp2
            go_ret2
            exact ⟨_, by rw [HE.out]; rfl, by rw [HE.out]; exact OwnB.nil _ _ _ (Nat.le_refl _), HBW2.out⟩
    · obtain rfl : k = f.clauses.length := by omega
      have HOKT : Hid (okHorn f = true) := by rw [Hid, HOK.out, ← H.out, drop_len _ _ (Nat.le_refl _)]; rfl
      obtain ⟨N, hN⟩ : ∃ N : Nat, N = 2 ^ L := ⟨_, rfl⟩
      have hsh := (shl_one L hL2).1
      have hN2 := (shl_one L hL2).2
      have hN1 : 1 ≤ 2 ^ L := Nat.one_le_two_pow
      have HMF : Hid (meetGo L f.clauses N 0 (N - 1) false = meetF L f.clauses) := by rw [Hid, hN]; rfl
      rw [← hN] at hsh hN2 hN1
      have hsub : ((N : Int) - 1) = ((N - 1 : Nat) : Int) := by omega
      have HSB := Lib.hid hsub
      clear hN H hsub
      go_wp2_with fail
      clear k0 k1
      go_loopw [7, 8, 9] (fun av fv nv wr => ∃ (n a : Nat) (t : Bool), n ≤ N ∧ nv = .int .i64 n ∧ av = .int .i64 a ∧ fv = .bool t ∧ a ≤ N ∧ Hid (meetGo L f.clauses (N - n) n a t = meetF L f.clauses) ∧ Drew w2 wr) (fun _ _ nv _ => N - (intOf nv).toNat)
      case atStart => exact ⟨0, N - 1, false, Nat.zero_le _, rfl, by rw [HSB.out], rfl, Nat.sub_le _ _, HMF, Drew.refl _⟩
      case round =>
        clear HMF
        obtain ⟨n, a, t, hn, rfl, rfl, rfl, haN, H, hD⟩ := hrel
        have HD := Lib.hid hD
        have k0 := (HB2.out.drew hD).c0
        have k1 := (HB2.out.drew hD).c1
        by_cases hlt : n < N
        · have HMO := Lib.hid (l05Model_any w.heap.size L n _ f.clauses wr k0 k1 (HU2.out.drew hD) HLA.out hL2 (by omega) (by omega))
          clear hD
          cases hft : formTrue (valuesN L n) f.clauses
          · rw [hft] at HMO
            have HN := Lib.hid (meet_no (a := a) (fd := t) hlt hft)
            clear hft
            go_wp2_with fail
            refine HMO.out.mono ?_
            rintro e w3 ⟨rfl, hD3⟩
            have HD3 := Lib.hid (HD.out.trans hD3)
            clear hD3
            go_wp2
            go_roundw
            case rel => exact ⟨n + 1, a, t, by omega, by go_num, rfl, rfl, haN, Lib.hid (by rw [← HN.out, H.out]), HD3.out⟩
            case measure => (simp [intOf]; try omega)
          · rw [hft] at HMO
            have HN := Lib.hid (meet_yes (a := a) (fd := t) hlt hft)
            have hand := and_nat a n (by omega) (by omega)
            have hal : a &&& n ≤ a := Nat.and_le_left
            clear hft
            go_wp2_with fail
            refine HMO.out.mono ?_
            rintro e w3 ⟨rfl, hD3⟩
            have HD3 := Lib.hid (HD.out.trans hD3)
            clear hD3
            go_wp2
            go_roundw
            case rel => exact ⟨n + 1, a &&& n, true, by omega, by go_num, rfl, rfl, by omega, Lib.hid (by rw [← HN.out, H.out]), HD3.out⟩
            case measure => (simp [intOf]; try omega)
        · obtain rfl : n = N := by omega
          have HME : Hid (meetF L f.clauses = (a, t)) := by rw [Hid, ← H.out, Nat.sub_self]; rfl
          have HBR := Lib.hid (HBW2.out.trans (hD.below w.heap.size))
          have hsr : w.heap.size ≤ wr.heap.size := HBR.out.size
          clear H hD
          cases t
          · have HE : Hid (hornF f = ([], false)) := horn_none HLT.out (by rw [HME.out])
            go_wp2
            go_ret2
            exact ⟨_, by rw [HE.out]; rfl, by rw [HE.out]; exact OwnB.nil _ _ _ (Nat.le_refl _), HBR.out⟩
          · have HE : Hid (hornF f = (valuesN L a, true)) := by rw [Hid, horn_yes HLT.out HOKT.out (by rw [HME.out]), HME.out]
            have HVA := Lib.hid (l05Values_any L a wr hL2 (by omega))
            go_wp2_with fail
            refine HVA.out.mono ?_
            rintro e w4 ⟨v4, rfl, ho4, hb4⟩
            have HO4 := Lib.hid ho4
            have HB4 := Lib.hid (HBR.out.trans (hb4.mono hsr))
            clear ho4 hb4
            go_wp2
            go_ret2
            exact ⟨_, by rw [HE.out]; rfl, by rw [HE.out]; exact HO4.out.mono hsr (Nat.le_refl _) (Nat.le_refl _), HB4.out⟩
end Go.Proofs.Ytcpbgjnijhcpkaa
