/-
  FaultsOf: the contract in the reference.
-/
import Derived.Test.YtgbomnhidfejbaaFaults
import Derived.IntWalk
namespace Go.Proofs.Ytgbomnhidfejbaa
open Go.RowKit
set_option linter.unusedVariables false

theorem ints_drop {w : World} {lo hi b off n c : Nat} {zs : List Int} (h : Ints w lo hi (.slice (some ⟨b, off, none⟩) n c) zs) (k : Nat) (hk : k ≤ n) : Ints w lo hi (.slice (some ⟨b, off + k, none⟩) (n - k) (c - k)) (zs.drop k) := by
  obtain ⟨a', cap', e, h1, h2, h3⟩ := h.out
  simp only [Value.slice.injEq] at e
  obtain ⟨rfl, rfl, rfl⟩ := e
  have e : (zs.drop k).length = zs.length - k := List.length_drop
  refine ⟨⟨_, _, by rw [e], by omega, by omega, ?_⟩, fun n hn => h.rng n (List.mem_of_mem_drop hn)⟩
  rw [e]
  rcases h3 with rfl | ⟨b', off', r1, r2, r3, r4, r5⟩
  · exact .inl (by simp)
  · injection r1 with r1
    injection r1 with r1 r6
    subst r1; subst r6
    refine .inr ⟨b, off + k, rfl, r2, r3, r4, fun i hi => ?_⟩
    rw [Nat.add_assoc, r5 (k + i) (by omega)]
    simp [List.getD]
/-- the last place below q that holds x, or -1 -/
def lastAt (now : List Int) (x : Int) : Nat → Int
  | 0 => -1
  | q + 1 => if now.getD q 0 = x then (q : Int) else lastAt now x q
theorem lastAt_eq {now : List Int} (nd : now.Nodup) (x : Int) : lastAt now x now.length = if hasI now x then (posOf now x : Int) else -1 := by
  cases hh : hasI now x
  · have hm : x ∉ now := fun hm => by rw [← hasI_iff] at hm; rw [hm] at hh; cases hh
    have : ∀ q, q ≤ now.length → lastAt now x q = -1 := by
      intro q
      induction q with
      | zero => intro _; rfl
      | succ q ih => intro hq; rw [lastAt, if_neg (fun e => hm (by rw [← e]; exact getD_mem (by omega)))]; exact ih (by omega)
    rw [this _ (Nat.le_refl _)]; rfl
  · obtain ⟨p1, p2, p3⟩ := posOf_spec ((hasI_iff now x).1 hh)
    have : ∀ q, q ≤ now.length → lastAt now x q = if posOf now x < q then (posOf now x : Int) else -1 := by
      intro q
      induction q with
      | zero => intro _; rfl
      | succ q ih =>
        intro hq
        rw [lastAt]
        by_cases he : now.getD q 0 = x
        · have : q = posOf now x := nodup_getD nd (by omega) p1 (by rw [he, p2])
          rw [if_pos he, if_pos (by omega), this]
        · rw [if_neg he, ih (by omega)]
          have : q ≠ posOf now x := fun e => he (by rw [e, p2])
          split <;> split <;> omega
    rw [this _ (Nat.le_refl _), if_pos p1]; rfl
set_option maxHeartbeats 2000000 in
set_option maxRecDepth 100000 in
theorem specFaults2_any (w : World) {l h : Nat} (v : Value) (asks : List Int) (room : Int) (hv : Ints w l h v asks) (hh : h ≤ w.heap.size) (hz : asks.length ≤ 1048576)
    (hA : (inB 1 64 (asks.length : Int) && asks.all (inB 0 63)) = true) (hR : inB 1 16 room = true) (hL : inB 0 2 2 = true) :
    Calls Try.prog 20 #[v, .int .i64 room, .int .i64 2] w fun e w' => e = .returned (.tuple #[.int .i64 (faultsOf asks room 2).1, .bool (faultsOf asks room 2).2]) ∧ Below w.heap.size w w' := by
  have HAL : Hid (∀ wx, Drew w wx → Calls Try.prog 52 #[v, .int .i64 64] wx fun e w' => e = .returned (.bool (inB 1 64 (asks.length : Int) && asks.all (inB 0 63))) ∧ wx = w') := fun wx hx => by
    have := l06Asks_any v asks 64 wx (by omega) (hv.drew hx)
    rw [Bool.and_comm] at this
    exact this
  have HV := Lib.hid hv
  obtain ⟨a, cap, rfl, hc1, hc2, hd⟩ := hv.out
  clear hv
  have hok : okFaults asks room 2 = true := by rw [okFaults, Bool.and_comm (asks.all _), hA, hR, hL]; rfl
  have HE := Lib.hid (show faultsOf asks room 2 = (faultGo asks room 2 asks.length 0 [] 0, true) by simp [faultsOf, hok])
  simp only [Bool.and_eq_true, List.all_eq_true] at hA
  have a1 := inB_true hA.1
  have HP : Hid (∀ x ∈ asks, 0 ≤ x ∧ x ≤ 63) := fun x hx => inB_true (hA.2 x hx)
  have hA' : (inB 1 64 (asks.length : Int) && asks.all (inB 0 63)) = true := by simp only [Bool.and_eq_true, List.all_eq_true]; exact hA
  have br := inB_true hR
  have bl := inB_true hL
  have hn0 : 0 < asks.length := by omega
  have hn64 : asks.length ≤ 64 := by omega
  rcases hd with hd | ⟨b, off, rfl, hb1, hb2, hb3, hcell⟩
  · rw [hd] at hn0; simp at hn0
  have AC : Hid (∀ (wx : World) (j : Nat), Below w.heap.size w wx → j < asks.length → wx.cell? ⟨b, off + j, none⟩ = some (.int .i64 (asks.getD j 0))) := fun wx j hbx hj => by
    rw [hbx.cell (p := ⟨b, off + j, none⟩) (show b < w.heap.size by omega)]; exact hcell j hj
  have h0 := emptySlice w
  clear hcell hA hok
  go_enter Try.func20, Try.ntmps20
  go_wp2_with fail
  refine (HAL.out _ (Drew.refl _)).mono ?_
  rintro e w' ⟨rfl, rfl⟩
  rw [hA']
  go_wp2_with fail
  refine (l00In_any _ _ _ _).mono ?_
  rintro e w' ⟨rfl, rfl⟩
  rw [hR]
  go_wp2_with fail
  refine (l00In_any _ _ _ _).mono ?_
  rintro e w' ⟨rfl, rfl⟩
  rw [hL]
  clear hA' hR hL
  go_wp2_with fail
  go_loopw [8, 9, 10] (fun ov cv iv wr => ∃ (k : Nat) (now : List Int) (c : Int), k ≤ asks.length ∧ iv = .int .i64 k ∧ cv = .int .i64 c ∧ 0 ≤ c ∧ c ≤ (k : Int) ∧ Hid (faultGo asks room 2 (asks.length - k) k now c = faultGo asks room 2 asks.length 0 [] 0) ∧ Hid (Room room now) ∧ OwnI wr w.heap.size wr.heap.size ov now ∧ Below w.heap.size w wr) (fun _ _ iv _ => asks.length - (intOf iv).toNat)
  case atStart => exact ⟨0, [], 0, Nat.zero_le _, rfl, rfl, by omega, by omega, Lib.hid rfl, Lib.hid (Room.nil br.1), by simpa using h0, below_newW _ _⟩
  case round =>
    clear h0
    obtain ⟨k, now, c, hk, rfl, rfl, c0, c1, H, HRM, ho, hb⟩ := hrel
    have HO := Lib.hid ho
    have HB := Lib.hid hb
    have hs := hb.size
    by_cases hkn : k < asks.length
    · have hx := HP.out _ (getD_mem hkn)
      have hnl : (now.length : Int) ≤ room := HRM.out.le
      have hnl2 : now.length ≤ 16 := by omega
      obtain ⟨x, hxx⟩ : ∃ x, x = asks.getD k 0 := ⟨_, rfl⟩
      rw [← hxx] at hx
      have HXX := Lib.hid hxx
      have hx1 := hx.1
      have hx2 := hx.2
      have AC2 : Hid (∀ (wx : World), Below w.heap.size w wx → wx.cell? ⟨b, off + k, none⟩ = some (.int .i64 x)) := fun wx hbx => by
        rw [AC.out wx k hbx hkn, hxx]
      have HLA := Lib.hid (lastAt_eq HRM.out.nd x)
      obtain ⟨oa, oc, rfl, ho1, ho2, ho3⟩ := ho.rd.out
      have NC : Hid (∀ (wx : World) (j : Nat), Drew wr wx → j < now.length → ∃ g o, oa = some ⟨g, o, none⟩ ∧ wx.cell? ⟨g, o + j, none⟩ = some (.int .i64 (now.getD j 0))) := fun wx j hD hj => by
        rcases ho3 with rfl | ⟨g, o, e, _, _, _, hc⟩
        · simp at hj
        · exact ⟨g, o, e, by rw [hD.cell]; exact hc j hj⟩
      clear ho ho3 hb hx hxx
      obtain ⟨w7, hw7⟩ : ∃ w7, w7 = wr := ⟨_, rfl⟩
      subst hw7
      go_wp2_with fail
      go_loopw [11, 12] (fun av kv wr => ∃ q : Nat, q ≤ now.length ∧ kv = .int .i64 q ∧ av = .int .i64 (lastAt now x q) ∧ Drew w7 wr) (fun _ kv _ => now.length - (intOf kv).toNat)
      case atStart => exact ⟨0, Nat.zero_le _, rfl, rfl, Drew.refl _⟩
      case round =>
        obtain ⟨q, hq, rfl, rfl, hD⟩ := hrel
        have HDD := Lib.hid hD
        by_cases hqn : q < now.length
        · obtain ⟨g, o, rfl, cq⟩ := NC.out wr q hD hqn
          have ca := AC2.out wr (HB.out.trans (hD.below _))
          obtain ⟨y, hy⟩ : ∃ y, y = now.getD q 0 := ⟨_, rfl⟩
          rw [← hy] at cq
          have HLS : Hid (lastAt now x (q + 1) = if y = x then (q : Int) else lastAt now x q) := by rw [Hid, lastAt, ← hy]
          obtain ⟨lq, hlq⟩ : ∃ z, z = lastAt now x q := ⟨_, rfl⟩
          rw [← hlq] at HLS ⊢
          clear hy hlq hD
          by_cases hyx : y = x
          · have e1 : (y == x) = true := by simpa using hyx
            rw [if_pos hyx] at HLS
            subst hyx
            go_wp2_with fail
            go_quiet (fail)
            go_wp2
            go_roundw
            case rel => exact ⟨q + 1, by omega, by go_num, by rw [HLS.out], HDD.out.step _⟩
            case measure => (simp [intOf]; try omega)
          · have e1 : (y == x) = false := by simpa using hyx
            rw [if_neg hyx] at HLS
            go_wp2_with fail
            go_quiet (fail)
            go_wp2
            go_roundw
            case rel => exact ⟨q + 1, by omega, by go_num, by rw [HLS.out], HDD.out.step _⟩
            case measure => (simp [intOf]; try omega)
        · obtain rfl : q = now.length := by omega
          rw [HLA.out]
          have HOU : Hid (OwnI wr w.heap.size wr.heap.size (.slice oa now.length oc) now) := by
            have h1 := HO.out.drew hD
            rw [← hD.heap] at h1
            exact h1
          have HBU := Lib.hid (HB.out.trans (hD.below w.heap.size))
          have hsu := HBU.out.size
          have HRNG : Hid (∀ z ∈ now, I64 z) := fun z hz => by
            have := HRM.out.rng z hz; unfold I64; omega
          clear HO HB NC hD HDD HLA
          cases hin : hasI now x
          · rw [if_neg Bool.false_ne_true]
            have HG := Lib.hid (faultGo_out (room := room) (rule := 2) (c := c) hkn (by rw [← HXX.out]; exact hin))
            rw [← HXX.out] at HG
            by_cases hf : (now.length : Int) = room
            · have hn1 : 0 < now.length := by omega
              have hfb : ((now.length : Int) == room) = true := by simpa using hf
              rcases HOU.out.rowOf with ⟨_, e⟩ | ⟨g, gc, eS, hg1, hg2, hg3, hrow⟩
              · rw [e] at hn1; simp at hn1
              injection eS with e1 _ e2
              subst e1; subst e2
              have hol := outGo_lt (latBt (asks.drop (k + 1))) now (now.length - 1) 1 0 (by omega) hn1
              have hro : roomOut asks 2 k now = outGo (latBt (asks.drop (k + 1))) now (now.length - 1) 1 0 := if_pos rfl
              have hoo : outOf asks k now = outGo (latBt (asks.drop (k + 1))) now (now.length - 1) 1 0 := outOf_lat hkn hn64 hn1 (fun z hz e => by
                have : hasI now x = true := (hasI_iff now x).2 (by rw [HXX.out, e]; exact hz)
                rw [hin] at this; cases this)
              have HOT := Lib.hid (l06Out_any _ _ asks now k wr (HV.out.below HBU.out hh) HOU.out.rd (by omega) hn64 hn1 (by omega))
              rw [hoo] at HOT
              obtain ⟨o, hoE⟩ : ∃ o, o = outGo (latBt (asks.drop (k + 1))) now (now.length - 1) 1 0 := ⟨_, rfl⟩
              rw [← hoE] at hol hro HOT
              have hpl : o < now.length := hol
              have HT := Lib.hid (HRM.out.taken hin ⟨hx1, hx2⟩ (k := o) br.1 (fun _ => hol))
              rw [if_pos hf] at HT
              have HG1 : Hid (faultGo asks room 2 (asks.length - k) k now c = faultGo asks room 2 (asks.length - (k + 1)) (k + 1) (eraseAt now o ++ [x]) (c + 1)) := by rw [Hid, HG.out, if_pos hf, hro]
              clear hin hro hoo hoE hol HG
              subst hf
              go_wp2_with fail
              refine HOT.out.mono ?_
              rintro e wx ⟨rfl, hDx⟩
              have hrowx := hrow.drew hDx
              have HBX := Lib.hid (HBU.out.trans (hDx.below w.heap.size))
              have hsx := HBX.out.size
              clear hrow hDx HOU HOT
              have hrow := hrowx
              clear hrowx
              have HRW : Hid (RowI wx.drew w.heap.size g now.length oc now) := hrow.drew (Drew.one wx 1)
              have HTK : Hid (OwnI wx.drew w.heap.size wx.heap.size (.slice (some ⟨g, 0, none⟩) o oc) (now.take o)) := rowI_take o HRW.out (by omega) HRNG.out (by omega)
              have HLN : Hid ((now.take o).length + (now.drop (o + 1)).length ≤ 1099511627776) := by rw [Hid, List.length_take, List.length_drop]; omega
              have HLO : Hid (w.heap.size ≤ wx.drew.heap.size) := by show w.heap.size ≤ wx.heap.size; omega
              have HBD : Hid (Below w.heap.size w wx.drew) := HBX.out.trans ((show Drew wx wx.drew from ⟨1, rfl⟩).below _)
              have hel : (eraseAt now o).length ≤ 16 := by rw [eraseAt_len hpl]; omega
              have HDR : Hid (Ints wx.drew w.heap.size wx.heap.size (.slice (if oc = o + 1 then some ⟨g, 0, none⟩ else some ⟨g, o + 1, none⟩) (now.length - (o + 1)) (oc - (o + 1))) (now.drop (o + 1))) := by
                by_cases hcap : oc = o + 1
                · have e0 : now.length - (o + 1) = 0 := by omega
                  rw [if_pos (by omega), List.drop_eq_nil_of_le (by omega), Hid]
                  exact ⟨⟨some ⟨g, 0, none⟩, oc - (o + 1), by show Value.slice _ (now.length - (o + 1)) _ = _; rw [e0]; rfl, Nat.zero_le _, by omega, .inl rfl⟩, by simp⟩
                · rw [if_neg (by omega)]
                  have h1 := ints_drop (HRW.out.rd HRNG.out (show g < wx.heap.size from HRW.out.lt) (Nat.le_refl _)) (o + 1) hpl
                  rw [Nat.zero_add] at h1
                  exact h1
              have hq1 : o ≤ oc := by omega
              have hq2 : o + 1 ≤ now.length := by omega
              have hq3 : o + 1 ≤ oc := by omega
              have hq5 : ((o : Int) + 1).toNat = o + 1 := by omega
              have hq6 : 0 ≤ (o : Int) + 1 := by omega
              have hq7 : (o : Int) + 1 ≤ (now.length : Int) := by omega
              have hq4 : IntKind.i64.wrap ((o : Int) + 1) = (o : Int) + 1 := IntWalk.i64_in _ (by omega)
              clear hrow HRW
              obtain ⟨ra, hra⟩ : ∃ ra, (if oc = o + 1 then some (⟨g, 0, none⟩ : Addr) else some ⟨g, o + 1, none⟩) = ra := ⟨_, rfl⟩
              rw [hra] at HDR
              go_wp2_with fail
              go_region_law ((refine step_appIs (by rfl) _ _ (by rfl) _ (now.take o) (by simp [Act.eval, Act.put]) HTK.out _ (now.drop (o + 1)) (by simp [Act.eval, Act.put]) HDR.out HLN.out HLO.out ?_; intro v3 w3 ho3 hsm3 hz3 _))
              all_goals
                have HO3 : Hid (OwnI w3 w.heap.size w3.heap.size v3 (eraseAt now o)) := ho3
                clear hq4 hra HDR
                have HB3 := Lib.hid (HBD.out.trans (hsm3.below (Nat.le_refl _) HLO.out))
                have hs3 := HB3.out.size
                have ca3 := AC2.out w3 HB3.out
                clear ho3 hsm3
                go_wp2_with (at_builtin; refine wpList_app1 rfl _ _ rfl _ (eraseAt now o) rfl x _ HO3.out rfl (by unfold I64; omega) (by omega) hs3 ?_)
                intro v2 w4 ho2 hsm hz4 _
                have HO2 := Lib.hid ho2
                clear ho2
                go_wp2
                go_roundw
                case rel => exact ⟨k + 1, eraseAt now o ++ [x], c + 1, by omega, by go_num, by go_num, by omega, by omega, Lib.hid (by rw [← HG1.out, H.out]), HT, HO2.out, HB3.out.trans (hsm.below (Nat.le_refl _) hs3)⟩
                case measure => (simp [intOf]; try omega)
            · have HT := Lib.hid (HRM.out.taken hin ⟨hx1, hx2⟩ (k := 0) br.1 (fun e => absurd e hf))
              rw [if_neg hf] at HT
              have HG1 : Hid (faultGo asks room 2 (asks.length - k) k now c = faultGo asks room 2 (asks.length - (k + 1)) (k + 1) (now ++ [x]) (c + 1)) := by rw [Hid, HG.out, if_neg hf]
              have e2 : ((now.length : Int) == room) = false := by simpa using hf
              have HO3 := HOU
              have HB3 := HBU
              have hs3 := hsu
              have ca3 := AC2.out wr HB3.out
              clear hin hf HG
              go_wp2_with (at_builtin; refine wpList_app1 rfl _ _ rfl _ (now) rfl x _ HO3.out rfl (by unfold I64; omega) (by omega) hs3 ?_)
              intro v2 w4 ho2 hsm hz4 _
              have HO2 := Lib.hid ho2
              clear ho2
              go_wp2
              go_roundw
              case rel => exact ⟨k + 1, now ++ [x], c + 1, by omega, by go_num, by go_num, by omega, by omega, Lib.hid (by rw [← HG1.out, H.out]), HT, HO2.out, HB3.out.trans (hsm.below (Nat.le_refl _) hs3)⟩
              case measure => (simp [intOf]; try omega)
          · rw [if_pos rfl]
            obtain ⟨p1, p2, p3⟩ := posOf_spec ((hasI_iff now x).1 hin)
            have HG := Lib.hid (faultGo_in (room := room) (rule := 2) (c := c) hkn (by rw [← HXX.out]; exact hin))
            rw [← HXX.out] at HG
            have HMV := Lib.hid (HRM.out.moved hin)
            rcases HOU.out.rowOf with ⟨_, e⟩ | ⟨g, gc, eS, hg1, hg2, hg3, hrow⟩
            · rw [e] at p1; simp at p1
            injection eS with e1 _ e2
            subst e1; subst e2
            obtain ⟨p, hp⟩ : ∃ p, p = posOf now x := ⟨_, rfl⟩
            rw [← hp] at HG HMV p1 ⊢
            have hpl : p < now.length := p1
            clear hin p1 p2 p3 hp
            have HG1 : Hid (faultGo asks room 2 (asks.length - k) k now c = faultGo asks room 2 (asks.length - (k + 1)) (k + 1) now c) := by rw [Hid, HG.out, if_neg (by decide)]
            clear HG
            go_wp2
            go_roundw
            case rel => exact ⟨k + 1, now, c, by omega, by go_num, rfl, by omega, by omega, Lib.hid (by rw [← HG1.out, H.out]), HRM, HOU.out, HBU.out⟩
            case measure => (simp [intOf]; try omega)
    · obtain rfl : k = asks.length := by omega
      have hE : c = faultGo asks room 2 asks.length 0 [] 0 := by rw [← H.out, Nat.sub_self, faultGo]
      have HE2 := Lib.hid hE
      obtain ⟨oa, oc, rfl, _, _, _⟩ := ho.rd.out
      clear hE ho
      go_wp2
      go_ret2
      exact ⟨by rw [HE.out, ← HE2.out]; rfl, hb⟩
set_option maxHeartbeats 2000000 in
set_option maxRecDepth 100000 in
theorem specFaults01_any (w : World) {l h : Nat} (v : Value) (asks : List Int) (room : Int) (rule : Int) (hr2 : ¬ rule = 2) (hv : Ints w l h v asks) (hh : h ≤ w.heap.size) (hz : asks.length ≤ 1048576)
    (hA : (inB 1 64 (asks.length : Int) && asks.all (inB 0 63)) = true) (hR : inB 1 16 room = true) (hL : inB 0 2 rule = true) :
    Calls Try.prog 20 #[v, .int .i64 room, .int .i64 rule] w fun e w' => e = .returned (.tuple #[.int .i64 (faultsOf asks room rule).1, .bool (faultsOf asks room rule).2]) ∧ Below w.heap.size w w' := by
  have HAL : Hid (∀ wx, Drew w wx → Calls Try.prog 52 #[v, .int .i64 64] wx fun e w' => e = .returned (.bool (inB 1 64 (asks.length : Int) && asks.all (inB 0 63))) ∧ wx = w') := fun wx hx => by
    have := l06Asks_any v asks 64 wx (by omega) (hv.drew hx)
    rw [Bool.and_comm] at this
    exact this
  have HV := Lib.hid hv
  obtain ⟨a, cap, rfl, hc1, hc2, hd⟩ := hv.out
  clear hv
  have hok : okFaults asks room rule = true := by rw [okFaults, Bool.and_comm (asks.all _), hA, hR, hL]; rfl
  have HE := Lib.hid (show faultsOf asks room rule = (faultGo asks room rule asks.length 0 [] 0, true) by simp [faultsOf, hok])
  simp only [Bool.and_eq_true, List.all_eq_true] at hA
  have a1 := inB_true hA.1
  have HP : Hid (∀ x ∈ asks, 0 ≤ x ∧ x ≤ 63) := fun x hx => inB_true (hA.2 x hx)
  have hA' : (inB 1 64 (asks.length : Int) && asks.all (inB 0 63)) = true := by simp only [Bool.and_eq_true, List.all_eq_true]; exact hA
  have br := inB_true hR
  have bl := inB_true hL
  have hn0 : 0 < asks.length := by omega
  have hn64 : asks.length ≤ 64 := by omega
  rcases hd with hd | ⟨b, off, rfl, hb1, hb2, hb3, hcell⟩
  · rw [hd] at hn0; simp at hn0
  have AC : Hid (∀ (wx : World) (j : Nat), Below w.heap.size w wx → j < asks.length → wx.cell? ⟨b, off + j, none⟩ = some (.int .i64 (asks.getD j 0))) := fun wx j hbx hj => by
    rw [hbx.cell (p := ⟨b, off + j, none⟩) (show b < w.heap.size by omega)]; exact hcell j hj
  have h0 := emptySlice w
  clear hcell hA hok
  go_enter Try.func20, Try.ntmps20
  go_wp2_with fail
  refine (HAL.out _ (Drew.refl _)).mono ?_
  rintro e w' ⟨rfl, rfl⟩
  rw [hA']
  go_wp2_with fail
  refine (l00In_any _ _ _ _).mono ?_
  rintro e w' ⟨rfl, rfl⟩
  rw [hR]
  go_wp2_with fail
  refine (l00In_any _ _ _ _).mono ?_
  rintro e w' ⟨rfl, rfl⟩
  rw [hL]
  clear hA' hR hL
  have eB2 : (rule == 2) = false := by simpa using hr2
  go_wp2_with fail
  go_loopw [8, 9, 10] (fun ov cv iv wr => ∃ (k : Nat) (now : List Int) (c : Int), k ≤ asks.length ∧ iv = .int .i64 k ∧ cv = .int .i64 c ∧ 0 ≤ c ∧ c ≤ (k : Int) ∧ Hid (faultGo asks room rule (asks.length - k) k now c = faultGo asks room rule asks.length 0 [] 0) ∧ Hid (Room room now) ∧ OwnI wr w.heap.size wr.heap.size ov now ∧ Below w.heap.size w wr) (fun _ _ iv _ => asks.length - (intOf iv).toNat)
  case atStart => exact ⟨0, [], 0, Nat.zero_le _, rfl, rfl, by omega, by omega, Lib.hid rfl, Lib.hid (Room.nil br.1), by simpa using h0, below_newW _ _⟩
  case round =>
    clear h0
    obtain ⟨k, now, c, hk, rfl, rfl, c0, c1, H, HRM, ho, hb⟩ := hrel
    have HO := Lib.hid ho
    have HB := Lib.hid hb
    have hs := hb.size
    by_cases hkn : k < asks.length
    · have hx := HP.out _ (getD_mem hkn)
      have hnl : (now.length : Int) ≤ room := HRM.out.le
      have hnl2 : now.length ≤ 16 := by omega
      obtain ⟨x, hxx⟩ : ∃ x, x = asks.getD k 0 := ⟨_, rfl⟩
      rw [← hxx] at hx
      have HXX := Lib.hid hxx
      have hx1 := hx.1
      have hx2 := hx.2
      have AC2 : Hid (∀ (wx : World), Below w.heap.size w wx → wx.cell? ⟨b, off + k, none⟩ = some (.int .i64 x)) := fun wx hbx => by
        rw [AC.out wx k hbx hkn, hxx]
      have HLA := Lib.hid (lastAt_eq HRM.out.nd x)
      obtain ⟨oa, oc, rfl, ho1, ho2, ho3⟩ := ho.rd.out
      have NC : Hid (∀ (wx : World) (j : Nat), Drew wr wx → j < now.length → ∃ g o, oa = some ⟨g, o, none⟩ ∧ wx.cell? ⟨g, o + j, none⟩ = some (.int .i64 (now.getD j 0))) := fun wx j hD hj => by
        rcases ho3 with rfl | ⟨g, o, e, _, _, _, hc⟩
        · simp at hj
        · exact ⟨g, o, e, by rw [hD.cell]; exact hc j hj⟩
      clear ho ho3 hb hx hxx
      obtain ⟨w7, hw7⟩ : ∃ w7, w7 = wr := ⟨_, rfl⟩
      subst hw7
      go_wp2_with fail
      go_loopw [11, 12] (fun av kv wr => ∃ q : Nat, q ≤ now.length ∧ kv = .int .i64 q ∧ av = .int .i64 (lastAt now x q) ∧ Drew w7 wr) (fun _ kv _ => now.length - (intOf kv).toNat)
      case atStart => exact ⟨0, Nat.zero_le _, rfl, rfl, Drew.refl _⟩
      case round =>
        obtain ⟨q, hq, rfl, rfl, hD⟩ := hrel
        have HDD := Lib.hid hD
        by_cases hqn : q < now.length
        · obtain ⟨g, o, rfl, cq⟩ := NC.out wr q hD hqn
          have ca := AC2.out wr (HB.out.trans (hD.below _))
          obtain ⟨y, hy⟩ : ∃ y, y = now.getD q 0 := ⟨_, rfl⟩
          rw [← hy] at cq
          have HLS : Hid (lastAt now x (q + 1) = if y = x then (q : Int) else lastAt now x q) := by rw [Hid, lastAt, ← hy]
          obtain ⟨lq, hlq⟩ : ∃ z, z = lastAt now x q := ⟨_, rfl⟩
          rw [← hlq] at HLS ⊢
          clear hy hlq hD
          by_cases hyx : y = x
          · have e1 : (y == x) = true := by simpa using hyx
            rw [if_pos hyx] at HLS
            subst hyx
            go_wp2_with fail
            go_quiet (fail)
            go_wp2
            go_roundw
            case rel => exact ⟨q + 1, by omega, by go_num, by rw [HLS.out], HDD.out.step _⟩
            case measure => (simp [intOf]; try omega)
          · have e1 : (y == x) = false := by simpa using hyx
            rw [if_neg hyx] at HLS
            go_wp2_with fail
            go_quiet (fail)
            go_wp2
            go_roundw
            case rel => exact ⟨q + 1, by omega, by go_num, by rw [HLS.out], HDD.out.step _⟩
            case measure => (simp [intOf]; try omega)
        · obtain rfl : q = now.length := by omega
          rw [HLA.out]
          have HOU : Hid (OwnI wr w.heap.size wr.heap.size (.slice oa now.length oc) now) := by
            have h1 := HO.out.drew hD
            rw [← hD.heap] at h1
            exact h1
          have HBU := Lib.hid (HB.out.trans (hD.below w.heap.size))
          have hsu := HBU.out.size
          have HRNG : Hid (∀ z ∈ now, I64 z) := fun z hz => by
            have := HRM.out.rng z hz; unfold I64; omega
          clear HO HB NC hD HDD HLA
          cases hin : hasI now x
          · rw [if_neg Bool.false_ne_true]
            have HG := Lib.hid (faultGo_out (room := room) (rule := rule) (c := c) hkn (by rw [← HXX.out]; exact hin))
            rw [← HXX.out] at HG
            by_cases hf : (now.length : Int) = room
            · have hn1 : 0 < now.length := by omega
              have hfb : ((now.length : Int) == room) = true := by simpa using hf
              rcases HOU.out.rowOf with ⟨_, e⟩ | ⟨g, gc, eS, hg1, hg2, hg3, hrow⟩
              · rw [e] at hn1; simp at hn1
              injection eS with e1 _ e2
              subst e1; subst e2
              have hro : roomOut asks rule k now = 0 := if_neg hr2
              have hpl : 0 < now.length := hn1
              have HT := Lib.hid (HRM.out.taken hin ⟨hx1, hx2⟩ (k := 0) br.1 (fun _ => hn1))
              rw [if_pos hf] at HT
              have HG1 : Hid (faultGo asks room rule (asks.length - k) k now c = faultGo asks room rule (asks.length - (k + 1)) (k + 1) (eraseAt now 0 ++ [x]) (c + 1)) := by rw [Hid, HG.out, if_pos hf, hro]
              have HBX := HBU
              clear hin hro HG HOU
              subst hf
              have HRW : Hid (RowI wr.drew w.heap.size g now.length oc now) := hrow.drew (Drew.one wr 1)
              have HTK : Hid (OwnI wr.drew w.heap.size wr.heap.size (.slice (some ⟨g, 0, none⟩) 0 oc) (now.take 0)) := rowI_take 0 HRW.out (by omega) HRNG.out (by omega)
              have HLN : Hid ((now.take 0).length + (now.drop (0 + 1)).length ≤ 1099511627776) := by rw [Hid, List.length_take, List.length_drop]; omega
              have HLO : Hid (w.heap.size ≤ wr.drew.heap.size) := by show w.heap.size ≤ wr.heap.size; omega
              have HBD : Hid (Below w.heap.size w wr.drew) := HBX.out.trans ((show Drew wr wr.drew from ⟨1, rfl⟩).below _)
              have hel : (eraseAt now 0).length ≤ 16 := by rw [eraseAt_len hpl]; omega
              have HDR : Hid (Ints wr.drew w.heap.size wr.heap.size (.slice (if oc = 1 then some ⟨g, 0, none⟩ else some ⟨g, 1, none⟩) (now.length - (1)) (oc - (1))) (now.drop (0 + 1))) := by
                by_cases hcap : oc = 0 + 1
                · have e0 : now.length - (0 + 1) = 0 := by omega
                  rw [if_pos (by omega), List.drop_eq_nil_of_le (by omega), Hid]
                  exact ⟨⟨some ⟨g, 0, none⟩, oc - (0 + 1), by show Value.slice _ (now.length - (0 + 1)) _ = _; rw [e0]; rfl, Nat.zero_le _, by omega, .inl rfl⟩, by simp⟩
                · rw [if_neg (by omega)]
                  have h1 := ints_drop (HRW.out.rd HRNG.out (show g < wr.heap.size from HRW.out.lt) (Nat.le_refl _)) (0 + 1) hpl
                  rw [Nat.zero_add] at h1
                  exact h1
              have hq1 : 0 ≤ oc := by omega
              have hq2 : 1 ≤ now.length := by omega
              have hq3 : 1 ≤ oc := by omega
              have hq7 : 1 ≤ (now.length : Int) := by omega
              have hq4 : IntKind.i64.wrap (1) = 1 := IntWalk.i64_in _ (by omega)
              clear hrow HRW
              obtain ⟨ra, hra⟩ : ∃ ra, (if oc = 1 then some (⟨g, 0, none⟩ : Addr) else some ⟨g, 1, none⟩) = ra := ⟨_, rfl⟩
              rw [hra] at HDR
              go_wp2_with fail
              go_region_law ((refine step_appIs (by rfl) _ _ (by rfl) _ (now.take 0) (by simp [Act.eval, Act.put]) HTK.out _ (now.drop (0 + 1)) (by simp [Act.eval, Act.put]) HDR.out HLN.out HLO.out ?_; intro v3 w3 ho3 hsm3 hz3 _))
              all_goals
                have HO3 : Hid (OwnI w3 w.heap.size w3.heap.size v3 (eraseAt now 0)) := ho3
                clear hq4 hra HDR
                have HB3 := Lib.hid (HBD.out.trans (hsm3.below (Nat.le_refl _) HLO.out))
                have hs3 := HB3.out.size
                have ca3 := AC2.out w3 HB3.out
                clear ho3 hsm3
                go_wp2_with (at_builtin; refine wpList_app1 rfl _ _ rfl _ (eraseAt now 0) rfl x _ HO3.out rfl (by unfold I64; omega) (by omega) hs3 ?_)
                intro v2 w4 ho2 hsm hz4 _
                have HO2 := Lib.hid ho2
                clear ho2
                go_wp2
                go_roundw
                case rel => exact ⟨k + 1, eraseAt now 0 ++ [x], c + 1, by omega, by go_num, by go_num, by omega, by omega, Lib.hid (by rw [← HG1.out, H.out]), HT, HO2.out, HB3.out.trans (hsm.below (Nat.le_refl _) hs3)⟩
                case measure => (simp [intOf]; try omega)
            · have HT := Lib.hid (HRM.out.taken hin ⟨hx1, hx2⟩ (k := 0) br.1 (fun e => absurd e hf))
              rw [if_neg hf] at HT
              have HG1 : Hid (faultGo asks room rule (asks.length - k) k now c = faultGo asks room rule (asks.length - (k + 1)) (k + 1) (now ++ [x]) (c + 1)) := by rw [Hid, HG.out, if_neg hf]
              have e2 : ((now.length : Int) == room) = false := by simpa using hf
              have HO3 := HOU
              have HB3 := HBU
              have hs3 := hsu
              have ca3 := AC2.out wr HB3.out
              clear hin hf HG
              go_wp2_with (at_builtin; refine wpList_app1 rfl _ _ rfl _ (now) rfl x _ HO3.out rfl (by unfold I64; omega) (by omega) hs3 ?_)
              intro v2 w4 ho2 hsm hz4 _
              have HO2 := Lib.hid ho2
              clear ho2
              go_wp2
              go_roundw
              case rel => exact ⟨k + 1, now ++ [x], c + 1, by omega, by go_num, by go_num, by omega, by omega, Lib.hid (by rw [← HG1.out, H.out]), HT, HO2.out, HB3.out.trans (hsm.below (Nat.le_refl _) hs3)⟩
              case measure => (simp [intOf]; try omega)
          · rw [if_pos rfl]
            obtain ⟨p1, p2, p3⟩ := posOf_spec ((hasI_iff now x).1 hin)
            have HG := Lib.hid (faultGo_in (room := room) (rule := rule) (c := c) hkn (by rw [← HXX.out]; exact hin))
            rw [← HXX.out] at HG
            have HMV := Lib.hid (HRM.out.moved hin)
            rcases HOU.out.rowOf with ⟨_, e⟩ | ⟨g, gc, eS, hg1, hg2, hg3, hrow⟩
            · rw [e] at p1; simp at p1
            injection eS with e1 _ e2
            subst e1; subst e2
            obtain ⟨p, hp⟩ : ∃ p, p = posOf now x := ⟨_, rfl⟩
            rw [← hp] at HG HMV p1 ⊢
            have hpl : p < now.length := p1
            clear hin p1 p2 p3 hp
            by_cases hr1 : rule = 1
            · subst hr1
              have HG1 : Hid (faultGo asks room 1 (asks.length - k) k now c = faultGo asks room 1 (asks.length - (k + 1)) (k + 1) (eraseAt now p ++ [x]) c) := by rw [Hid, HG.out, if_pos rfl]
              have HBX := HBU
              clear HG HOU
              have HRW : Hid (RowI wr.drew w.heap.size g now.length oc now) := hrow.drew (Drew.one wr 1)
              have HTK : Hid (OwnI wr.drew w.heap.size wr.heap.size (.slice (some ⟨g, 0, none⟩) p oc) (now.take p)) := rowI_take p HRW.out (by omega) HRNG.out (by omega)
              have HLN : Hid ((now.take p).length + (now.drop (p + 1)).length ≤ 1099511627776) := by rw [Hid, List.length_take, List.length_drop]; omega
              have HLO : Hid (w.heap.size ≤ wr.drew.heap.size) := by show w.heap.size ≤ wr.heap.size; omega
              have HBD : Hid (Below w.heap.size w wr.drew) := HBX.out.trans ((show Drew wr wr.drew from ⟨1, rfl⟩).below _)
              have hel : (eraseAt now p).length ≤ 16 := by rw [eraseAt_len hpl]; omega
              have HDR : Hid (Ints wr.drew w.heap.size wr.heap.size (.slice (if oc = p + 1 then some ⟨g, 0, none⟩ else some ⟨g, p + 1, none⟩) (now.length - (p + 1)) (oc - (p + 1))) (now.drop (p + 1))) := by
                by_cases hcap : oc = p + 1
                · have e0 : now.length - (p + 1) = 0 := by omega
                  rw [if_pos (by omega), List.drop_eq_nil_of_le (by omega), Hid]
                  exact ⟨⟨some ⟨g, 0, none⟩, oc - (p + 1), by show Value.slice _ (now.length - (p + 1)) _ = _; rw [e0]; rfl, Nat.zero_le _, by omega, .inl rfl⟩, by simp⟩
                · rw [if_neg (by omega)]
                  have h1 := ints_drop (HRW.out.rd HRNG.out (show g < wr.heap.size from HRW.out.lt) (Nat.le_refl _)) (p + 1) hpl
                  rw [Nat.zero_add] at h1
                  exact h1
              have hq1 : p ≤ oc := by omega
              have hq2 : p + 1 ≤ now.length := by omega
              have hq3 : p + 1 ≤ oc := by omega
              have hq5 : ((p : Int) + 1).toNat = p + 1 := by omega
              have hq6 : 0 ≤ (p : Int) + 1 := by omega
              have hq7 : (p : Int) + 1 ≤ (now.length : Int) := by omega
              have hq4 : IntKind.i64.wrap ((p : Int) + 1) = (p : Int) + 1 := IntWalk.i64_in _ (by omega)
              clear hrow HRW
              obtain ⟨ra, hra⟩ : ∃ ra, (if oc = p + 1 then some (⟨g, 0, none⟩ : Addr) else some ⟨g, p + 1, none⟩) = ra := ⟨_, rfl⟩
              rw [hra] at HDR
              go_wp2_with fail
              go_region_law ((refine step_appIs (by rfl) _ _ (by rfl) _ (now.take p) (by simp [Act.eval, Act.put]) HTK.out _ (now.drop (p + 1)) (by simp [Act.eval, Act.put]) HDR.out HLN.out HLO.out ?_; intro v3 w3 ho3 hsm3 hz3 _))
              all_goals
                have HO3 : Hid (OwnI w3 w.heap.size w3.heap.size v3 (eraseAt now p)) := ho3
                clear hq4 hra HDR
                have HB3 := Lib.hid (HBD.out.trans (hsm3.below (Nat.le_refl _) HLO.out))
                have hs3 := HB3.out.size
                have ca3 := AC2.out w3 HB3.out
                clear ho3 hsm3
                go_wp2_with (at_builtin; refine wpList_app1 rfl _ _ rfl _ (eraseAt now p) rfl x _ HO3.out rfl (by unfold I64; omega) (by omega) hs3 ?_)
                intro v2 w4 ho2 hsm hz4 _
                have HO2 := Lib.hid ho2
                clear ho2
                go_wp2
                go_roundw
                case rel => exact ⟨k + 1, eraseAt now p ++ [x], c, by omega, by go_num, rfl, by omega, by omega, Lib.hid (by rw [← HG1.out, H.out]), HMV, HO2.out, HB3.out.trans (hsm.below (Nat.le_refl _) hs3)⟩
                case measure => (simp [intOf]; try omega)
            · have HG1 : Hid (faultGo asks room rule (asks.length - k) k now c = faultGo asks room rule (asks.length - (k + 1)) (k + 1) now c) := by rw [Hid, HG.out, if_neg hr1]
              have e1 : (rule == 1) = false := by simpa using hr1
              clear HG hr1
              go_wp2
              go_roundw
              case rel => exact ⟨k + 1, now, c, by omega, by go_num, rfl, by omega, by omega, Lib.hid (by rw [← HG1.out, H.out]), HRM, HOU.out, HBU.out⟩
              case measure => (simp [intOf]; try omega)
    · obtain rfl : k = asks.length := by omega
      have hE : c = faultGo asks room rule asks.length 0 [] 0 := by rw [← H.out, Nat.sub_self, faultGo]
      have HE2 := Lib.hid hE
      obtain ⟨oa, oc, rfl, _, _, _⟩ := ho.rd.out
      clear hE ho
      go_wp2
      go_ret2
      exact ⟨by rw [HE.out, ← HE2.out]; rfl, hb⟩
set_option maxHeartbeats 1000000 in
set_option maxRecDepth 100000 in
theorem specFaultsOf_any (w : World) {l h : Nat} (v : Value) (asks : List Int) (room rule : Int) (hv : Ints w l h v asks) (hh : h ≤ w.heap.size) (hz : asks.length ≤ 1048576) (kr : I64 room) (kl : I64 rule) :
    Calls Try.prog 20 #[v, .int .i64 room, .int .i64 rule] w fun e w' => e = .returned (.tuple #[.int .i64 (faultsOf asks room rule).1, .bool (faultsOf asks room rule).2]) ∧ Below w.heap.size w w' := by
  have HAL : Hid (∀ wx, Drew w wx → Calls Try.prog 52 #[v, .int .i64 64] wx fun e w' => e = .returned (.bool (inB 1 64 (asks.length : Int) && asks.all (inB 0 63))) ∧ wx = w') := fun wx hx => by
    have := l06Asks_any v asks 64 wx (by omega) (hv.drew hx)
    rw [Bool.and_comm] at this
    exact this
  have HV := Lib.hid hv
  obtain ⟨a, cap, rfl, hc1, hc2, hd⟩ := hv.out
  clear hv
  cases hA : (inB 1 64 (asks.length : Int) && asks.all (inB 0 63))
  · have HE := Lib.hid (faults_no (show okFaults asks room rule = false by rw [okFaults, Bool.and_comm (asks.all _), hA]; rfl))
    go_enter Try.func20, Try.ntmps20
    go_wp2_with fail
    refine (HAL.out _ (Drew.refl _)).mono ?_
    rintro e w' ⟨rfl, rfl⟩
    rw [hA]
    go_wp2
    go_ret2
    exact ⟨by rw [HE.out]; rfl, Below.refl _ _⟩
  cases hR : inB 1 16 room
  · have HE := Lib.hid (faults_no (show okFaults asks room rule = false by rw [okFaults, hR, Bool.false_and, Bool.and_false]))
    go_enter Try.func20, Try.ntmps20
    go_wp2_with fail
    refine (HAL.out _ (Drew.refl _)).mono ?_
    rintro e w' ⟨rfl, rfl⟩
    rw [hA]
    go_wp2_with fail
    refine (l00In_any _ _ _ _).mono ?_
    rintro e w' ⟨rfl, rfl⟩
    rw [hR]
    go_wp2
    go_ret2
    exact ⟨by rw [HE.out]; rfl, Below.refl _ _⟩
  cases hL : inB 0 2 rule
  · have HE := Lib.hid (faults_no (show okFaults asks room rule = false by rw [okFaults, hL, Bool.and_false, Bool.and_false]))
    go_enter Try.func20, Try.ntmps20
    go_wp2_with fail
    refine (HAL.out _ (Drew.refl _)).mono ?_
    rintro e w' ⟨rfl, rfl⟩
    rw [hA]
    go_wp2_with fail
    refine (l00In_any _ _ _ _).mono ?_
    rintro e w' ⟨rfl, rfl⟩
    rw [hR]
    go_wp2_with fail
    refine (l00In_any _ _ _ _).mono ?_
    rintro e w' ⟨rfl, rfl⟩
    rw [hL]
    go_wp2
    go_ret2
    exact ⟨by rw [HE.out]; rfl, Below.refl _ _⟩
  by_cases hr2 : rule = 2
  · subst hr2
    exact specFaults2_any w _ asks room HV.out hh hz hA hR hL
  · exact specFaults01_any w _ asks room rule hr2 HV.out hh hz hA hR hL
end Go.Proofs.Ytgbomnhidfejbaa
