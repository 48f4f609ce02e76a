/-
  CountOn: contracts in the reference and in the program.
-/
import Derived.Test.YtcpbgjnijhcpkaaBits
import Derived.Test.YtcpbgjnijhcpkaaTwo
import Derived.OwnWalk
namespace Go.Proofs.Ytcpbgjnijhcpkaa
open Go.RowKit
set_option linter.unusedVariables false
set_option maxRecDepth 100000

def seenBefore (M : Nat → Bool) (key : Nat → Nat) (n j : Nat) : Bool := (List.range n).any fun m => M m && (key m == j)
theorem seenBefore_succ (M : Nat → Bool) (key : Nat → Nat) (n j : Nat) : seenBefore M key (n + 1) j = (seenBefore M key n j || (M n && (key n == j))) := by
  simp [seenBefore, List.range_succ, List.any_append]
def freshN (M : Nat → Bool) (key : Nat → Nat) (n : Nat) : Nat := (List.range n).countP fun k => M k && !seenBefore M key k (key k)
theorem freshN_succ (M : Nat → Bool) (key : Nat → Nat) (n : Nat) : freshN M key (n + 1) = freshN M key n + (M n && !seenBefore M key n (key n)).toNat := by
  unfold freshN
  rw [List.range_succ, List.countP_append, List.countP_singleton]
  cases (M n && !seenBefore M key n (key n)) <;> rfl
theorem freshN_le (M : Nat → Bool) (key : Nat → Nat) (n : Nat) : freshN M key n ≤ n := by
  have := List.countP_le_length (p := fun k => M k && !seenBefore M key k (key k)) (l := List.range n)
  rwa [List.length_range] at this
theorem fresh_congr {M : Nat → Bool} {key key' : Nat → Nat} {N : Nat} (h : ∀ a b, a < N → b < N → (key a = key b ↔ key' a = key' b)) : freshN M key N = freshN M key' N := by
  unfold freshN
  apply List.countP_congr
  intro k hk
  rw [List.mem_range] at hk
  have : seenBefore M key k (key k) = seenBefore M key' k (key' k) := by
    rw [Bool.eq_iff_iff]
    simp only [seenBefore, List.any_eq_true, List.mem_range, Bool.and_eq_true, beq_iff_eq]
    constructor
    · rintro ⟨m, h1, h2, h3⟩; exact ⟨m, h1, h2, (h m k (by omega) hk).1 h3⟩
    · rintro ⟨m, h1, h2, h3⟩; exact ⟨m, h1, h2, (h m k (by omega) hk).2 h3⟩
  rw [this]
def onModels (L : Nat) (cs : List (List Int)) (n : Nat) : Bool := formTrue (valuesN L n) cs
def onKey (L : Nat) (list : List Int) (n : Nat) : Nat := numGo 0 (projN L list n)
def maskKey (L : Nat) (list : List Int) (n : Nat) : Nat := n &&& maskOf L list
theorem countOn_mask (L : Nat) (cs : List (List Int)) (list : List Int) (N : Nat) : freshN (onModels L cs) (maskKey L list) N = freshN (onModels L cs) (onKey L list) N :=
  fresh_congr fun a b _ _ => mask_key L list a b
def countOn (f : FormD) (list : List Int) : Int × Bool :=
  if validForm f && onGo f.letters 0 list then (((freshN (onModels f.letters.toNat f.clauses) (onKey f.letters.toNat list) (2 ^ f.letters.toNat) : Nat) : Int), true) else (0, false)
theorem countOn_valid {f : FormD} {list : List Int} {L : Nat} (hv : validForm f = true) (ho : onGo f.letters 0 list = true) (hL : f.letters = (L : Int)) :
    countOn f list = (((freshN (onModels L f.clauses) (onKey L list) (2 ^ L) : Nat) : Int), true) := by
  unfold countOn; rw [hv, ho, hL, Int.toNat_natCast]; rfl
set_option maxHeartbeats 2000000 in
set_option maxRecDepth 100000 in
theorem specCountOn_any (w : World) {l h l' h' : Nat} (v : Value) (f : FormD) (v' : Value) (list : List Int) (hv : FormR w l h v f) (hh : h ≤ w.heap.size) (hz : SmallII f.clauses) (hv' : Ints w l' h' v' list) (hh' : h' ≤ w.heap.size) (hz' : list.length ≤ 1048576) :
    Calls Try.prog 44 #[v, v'] w fun e w' => e = .returned (.tuple #[.int .i64 (countOn f list).1, .bool (countOn f list).2]) ∧ Below w.heap.size w w' := by
  obtain ⟨i0, hi, hz0, hz1, hz2⟩ := info_parts info_bool
  obtain ⟨u, rfl, hu⟩ := hv.ex
  have kL := hv.rng
  obtain ⟨W, hW⟩ : ∃ W, W = w.alloc (.cells #[.int .i64 f.letters, u] 26) := ⟨_, rfl⟩
  have hBW : Below w.heap.size w W := by rw [hW]; exact alloc_below _ _
  have hsW : W.heap.size = w.heap.size + 1 := by rw [hW]; simp
  have hbx : BoxF W w.heap.size f.letters u := by rw [hW]; exact BoxF.new _ _ _ _
  have HU := Lib.hid (hu.below hBW hh)
  have HB := Lib.hid hbx
  have HLI := Lib.hid (hv'.below hBW hh')
  obtain ⟨la, lcap, le, lc1, lc2, _⟩ := hv'.out
  subst le
  have hcl : f.clauses.length ≤ 1048576 := hz.1
  clear hbx hu hv hv'
  go_enter Try.func44, Try.ntmps44
  go_wp2_with fail
  rw [← hW]
  clear hW
  refine (l05Is_any W _ _ f HB.out.c0 HB.out.c1 (by omega) kL HU.out (by omega)).mono ?_
  rintro e w2 ⟨rfl, hb2⟩
  have hs2 := hb2.size
  cases hval : validForm f
  · have HE := Lib.hid (show countOn f list = (0, false) by simp [countOn, hval])
    go_wp2
    go_ret2
    exact ⟨by rw [HE.out]; rfl, hBW.trans (hb2.mono hBW.size)⟩
  · obtain ⟨L, hL, hL1, hL2⟩ := lettersN hval
    have hB2 := HB.out.below hb2 HB.out.lt
    rw [hL] at hB2
    have HB2 := Lib.hid hB2
    have HU2 := Lib.hid (HU.out.below hb2 (by omega))
    have HLA := Lib.hid (litsAll_of_valid hL hval)
    have hli2 := HLI.out.below hb2 (by omega)
    obtain ⟨la', lcap', e1, _, _, ld⟩ := hli2.out
    simp only [Value.slice.injEq] at e1
    obtain ⟨rfl, _, rfl⟩ := e1
    have HNo := Lib.hid (fun (ho : onGo (L : Int) 0 list = false) => show countOn f list = (0, false) by rw [← hL] at ho; simp [countOn, ho])
    have HYes := Lib.hid (fun (ho : onGo (L : Int) 0 list = true) => countOn_valid hval (by rw [hL]; exact ho) hL)
    have hBw2 : Below w.heap.size w w2 := hBW.trans (hb2.mono hBW.size)
    have kL0 : (1 : Int) ≤ (L : Int) := by omega
    have kL1 : (L : Int) ≤ 10 := by omega
    clear hval hB2 hL hli2
    go_wp2_with fail
    go_loopw [6, 15] (fun mv i wr => ∃ k m : Nat, k ≤ list.length ∧ i = .int .i64 k ∧ mv = .int .i64 m ∧ m < 1024 ∧ Hid (m = maskOf L (list.take k)) ∧ Hid (∀ x ∈ list.take k, 1 ≤ x) ∧ Hid (onGo L (prevRaw list k) (list.drop k) = onGo L 0 list) ∧ Drew w2 wr) (fun _ i _ => list.length - (intOf i).toNat)
    case atStart => exact ⟨0, 0, Nat.zero_le _, rfl, rfl, by omega, Lib.hid (by simp [maskOf]), Lib.hid (by simp), Lib.hid rfl, Drew.refl _⟩
    case round =>
      obtain ⟨k, m, hk, rfl, rfl, hm, HM, HA1, H, hD⟩ := hrel
      have hB3 := HB2.out.drew hD
      have c0 := hB3.c0
      have HB3 := Lib.hid hB3
      clear hB3
      by_cases hlt : k < list.length
      · have HD := Lib.hid (drop_cons list k hlt)
        have HT := Lib.hid (show list.take (k + 1) = list.take k ++ [list[k]] from List.take_succ_eq_append_getElem hlt)
        have HP1 := Lib.hid (prevRaw_succ list k hlt)
        rcases ld with rfl | ⟨b, off, rfl, hb1, hbb2, hbb3, hcell⟩
        · simp at hlt
        have HC : Hid (∀ i, i < list.length → wr.cell? ⟨b, off + i, none⟩ = some (.int .i64 (list.getD i 0))) := fun i hi => by rw [hD.cell]; exact hcell i hi
        have hck : wr.cell? ⟨b, off + k, none⟩ = some (.int .i64 list[k]) := by have := HC.out k hlt; simpa [List.getD, hlt] using this
        clear hcell
        have hbel := hBw2.trans (hD.below _)
        have HBEL := Lib.hid hbel
        clear hbel
        cases h1 : inB 1 (L : Int) list[k]
        · have HN := Lib.hid (HNo.out (by rw [← H.out, HD.out, onGo, h1]; simp))
          by_cases hk0 : 0 < k
          all_goals
            go_wp2_with fail
            go_quiet ((go_at_call 98; exact quiet_same (l00In_any _ _ _ _)))
            go_wp2
            go_ret2
            exact ⟨by rw [HN.out]; rfl, HBEL.out.trans ((Drew.one _ _).below _)⟩
        have hx := inB_true h1
        obtain ⟨A, hA⟩ : ∃ A : Nat, list[k] = (A : Int) := ⟨list[k].toNat, by omega⟩
        have HAK := Lib.hid hA
        rw [hA] at hck h1 hx
        have hA1 : 1 ≤ A := by omega
        have hA2 : A ≤ L := by omega
        obtain ⟨q, hq⟩ : ∃ q : Nat, q = 2 ^ (L - A) := ⟨_, rfl⟩
        have hsh := (shl_one (L - A) (by omega)).1
        have hq2 := (shl_one (L - A) (by omega)).2
        rw [← hq] at hsh hq2
        have hor := or_nat m q (by omega) (by omega)
        have HQ := Lib.hid hq
        have hm2 : m ||| q < 1024 := by
          have h2 : q < 1024 := by rw [hq]; exact Nat.lt_of_lt_of_le (Nat.pow_lt_pow_right (by decide : 1 < 2) (show L - A < L by omega)) (pow_L hL2)
          exact Nat.or_lt_two_pow (n := 10) hm h2
        have HMN : Hid (m ||| q = maskOf L (list.take (k + 1))) := by rw [Hid, HT.out, mask_snoc, ← HM.out, HAK.out, Int.toNat_natCast, HQ.out]
        have HAN : Hid (∀ x ∈ list.take (k + 1), 1 ≤ x) := by
          intro x hx'
          rw [HT.out, List.mem_append, List.mem_singleton] at hx'
          rcases hx' with hx' | rfl
          · exact HA1.out x hx'
          · rw [HAK.out]; omega
        clear hA hq hx
        by_cases hk0 : 0 < k
        · have hlt' : k - 1 < list.length := by omega
          have hckp : wr.cell? ⟨b, off + (k - 1), none⟩ = some (.int .i64 list[k - 1]) := by have := HC.out (k - 1) hlt'; simpa [List.getD, hlt'] using this
          have HP := Lib.hid (prevRaw_pos list k hk0 hlt')
          have hwr : IntKind.i64.wrap ((k : Int) - 1) = (k : Int) - 1 := IntWalk.i64_in _ (by omega)
          have hkz : (0 : Int) ≤ (k : Int) - 1 := by omega
          have hkn : ((k : Int) - 1).toNat = k - 1 := by omega
          have hkl : (k : Int) - 1 < (list.length : Int) := by omega
          cases hqq : decide ((A : Int) ≤ list[k - 1])
          · have HS := Lib.hid (show onGo L list[k] (list.drop (k + 1)) = onGo L 0 list by
              rw [← H.out, HD.out, onGo, HAK.out, h1, HP.out, show decide (list[k - 1] < (A : Int)) = true by simp at hqq ⊢; omega]; simp)
            go_wp2_with fail
            go_quiet ((go_at_call 98; exact quiet_same (l00In_any _ _ _ _)))
            clear hwr hkz hkn hkl
            go_wp2_with fail
            go_quiet (fail)
            go_wp2
            go_roundw
            case rel => exact ⟨k + 1, m ||| q, by omega, by go_num, rfl, hm2, HMN.out, HAN.out, Lib.hid (by rw [HP1.out]; exact HS.out), hD.step _⟩
            case measure => simp [intOf]; omega
          · have HN := Lib.hid (HNo.out (by rw [← H.out, HD.out, onGo, HAK.out, HP.out, show decide (list[k - 1] < (A : Int)) = false by simp at hqq ⊢; omega]; simp))
            go_wp2_with fail
            go_quiet ((go_at_call 98; exact quiet_same (l00In_any _ _ _ _)))
            clear hwr hkz hkn hkl
            go_wp2
            go_ret2
            exact ⟨by rw [HN.out]; rfl, HBEL.out.trans ((Drew.one _ _).below _)⟩
        · have HP := Lib.hid (prevRaw_zero list k hk0)
          have HS := Lib.hid (show onGo L list[k] (list.drop (k + 1)) = onGo L 0 list by
              rw [← H.out, HD.out, onGo, HAK.out, h1, HP.out, show decide ((0 : Int) < (A : Int)) = true by simp; omega]; simp)
          go_wp2_with fail
          go_quiet ((go_at_call 98; exact quiet_same (l00In_any _ _ _ _)))
          go_wp2_with fail
          go_quiet (fail)
          go_wp2
          go_roundw
          case rel => exact ⟨k + 1, m ||| q, by omega, by go_num, rfl, hm2, HMN.out, HAN.out, Lib.hid (by rw [HP1.out]; exact HS.out), hD.step _⟩
          case measure => simp [intOf]; omega
      · obtain rfl : k = list.length := by omega
        have hon : onGo (L : Int) 0 list = true := by rw [← H.out, drop_len _ _ (Nat.le_refl _)]; rfl
        have HE := Lib.hid (HYes.out hon)
        have hmm : m = maskOf L list := by have := HM.out; rwa [List.take_length] at this
        have HMM := Lib.hid hmm
        obtain ⟨N, hN⟩ : ∃ N : Nat, N = 2 ^ L := ⟨_, rfl⟩
        have hsh := (shl_one L hL2).1
        have hN2 := (shl_one L hL2).2
        rw [← hN] at hsh hN2
        have HN := Lib.hid hN
        clear hon hmm hN HNo HYes
        go_wp2_with (refine wpList_make_full _ rfl _ _ 40 rfl wr.heap.size 4 i0 (.bool false) 1 Try.underlying40 hi hz0 hz1 .i64 .i64 _ _ N rfl rfl rfl rfl ?c1 (by unfold maxLen; omega) ?c2 ?_)
        case c1 => rw [hz2]; omega
        case c2 => exact Nat.le_refl _
        intro w3 hown hg
        have hrow0 : RowB w3 wr.heap.size wr.heap.size N N (List.replicate N false) := RowB.made hown
        have hb0 : Below wr.heap.size wr w3 := (Below.refl _ _).grown hg (Nat.le_refl _) (fun k hk => by cases hk)
        have hszr : wr.heap.size = w2.heap.size := by rw [hD.heap]
        have HZR := Lib.hid hszr
        have HB4 := Lib.hid (HB3.out.below hb0 HB3.out.lt)
        have HU4 := Lib.hid ((HU2.out.drew hD).below hb0 (by omega))
        have hBw3 : Below w.heap.size w w3 := (hBw2.trans (hD.below _)).trans (hb0.mono (by omega))
        have HBw3 := Lib.hid hBw3
        have hg3 := hrow0.lt
        obtain ⟨g, hgg⟩ : ∃ g : Nat, g = wr.heap.size := ⟨_, rfl⟩
        rw [← hgg] at hrow0 hb0 hg3
        rw [← hgg]
        have hgw : w.heap.size < g := by omega
        have hgh : h ≤ g := by omega
        clear hown hg hszr hgg c0 hBw3
        have HM0 : Hid (freshN (onModels L f.clauses) (maskKey L list) 0 = 0) := rfl
        go_wp2_with fail
        go_loopw [9, 10] (fun cv i wr => ∃ (n c : Nat) (B : List Bool), n ≤ N ∧ i = .int .i64 n ∧ cv = .int .i64 c ∧ c ≤ n ∧ Hid (c = freshN (onModels L f.clauses) (maskKey L list) n) ∧ RowB wr g g N N B ∧ Hid (∀ j : Nat, j < N → B.getD j false = seenBefore (onModels L f.clauses) (maskKey L list) n j) ∧ Below g w3 wr) (fun _ i _ => N - (intOf i).toNat)
        case atStart => exact ⟨0, 0, _, Nat.zero_le _, rfl, rfl, Nat.le_refl _, Lib.hid rfl, hrow0, Lib.hid (fun j _ => by rw [replicate_getD]; rfl), Below.refl _ _⟩
        case round =>
          clear hrow0 hb0
          obtain ⟨n, c, B, hn, rfl, rfl, hc, HC, hrow, HB', hb⟩ := hrel
          have hsz := hb.size
          have HB5 := Lib.hid (HB4.out.below hb (by omega))
          have HU5 := Lib.hid (HU4.out.below hb (by omega))
          have c0 := HB5.out.c0
          have HFS := Lib.hid (freshN_succ (onModels L f.clauses) (maskKey L list) n)
          have HSS := Lib.hid (seenBefore_succ (onModels L f.clauses) (maskKey L list) n)
          by_cases hlt : n < N
          · have HCM := Lib.hid (l05Model_any w.heap.size L n u f.clauses wr HB5.out.c0 HB5.out.c1 HU5.out HLA.out hL2 (by omega) hcl)
            have hand := and_nat n m (by omega) (by omega)
            have hle : n &&& m ≤ n := Nat.and_le_left
            obtain ⟨kq, hkq⟩ : ∃ kq : Nat, kq = n &&& m := ⟨_, rfl⟩
            rw [← hkq] at hand hle
            have hkN : kq < N := by omega
            have HKQ : Hid (maskKey L list n = kq) := by rw [Hid, hkq, maskKey, HMM.out]
            have hBk := hrow.cell hkN
            have hfk := hrow.frozen kq
            have HBK := Lib.hid (HB'.out kq hkN)
            have HRow := Lib.hid hrow
            have hBl := hrow.length
            clear hkq
            cases hft : formTrue (valuesN L n) f.clauses
            · have HFT : Hid (onModels L f.clauses n = false) := hft
              go_wp2_with fail
              refine HCM.out.mono ?_
              rintro e w4 ⟨rfl, hD4⟩
              rw [hft]
              go_wp2
              go_roundw
              case rel =>
                refine ⟨n + 1, c, B, by omega, by go_num, rfl, by omega, Lib.hid (by rw [HFS.out, HFT.out, HC.out]; rfl), HRow.out.drew hD4, Lib.hid (fun j hj => ?_), hb.trans (hD4.below _)⟩
                rw [HSS.out, HFT.out, Bool.false_and, Bool.or_false]; exact HB'.out j hj
              case measure => simp [intOf]; omega
            · have HFT : Hid (onModels L f.clauses n = true) := hft
              cases hs : B.getD kq false
              · go_wp2_with fail
                refine HCM.out.mono ?_
                rintro e w4 ⟨rfl, hD4⟩
                rw [hft]
                have hBk4 := (HRow.out.drew hD4).cell hkN
                have hfk4 := (HRow.out.drew hD4).frozen kq
                rw [hs] at hBk4
                go_wp2
                go_roundw
                case rel =>
                  refine ⟨n + 1, c + 1, _, by omega, by go_num, by go_num, by omega, Lib.hid (by rw [HFS.out, HFT.out, HC.out, HKQ.out, ← HBK.out, hs]; rfl), (HRow.out.drew hD4).stored kq true, Lib.hid (fun j hj => ?_), (hb.trans (hD4.below _)).setCell (Nat.le_refl _) _⟩
                  rw [HSS.out, HFT.out, HKQ.out, Bool.true_and]
                  by_cases e : j = kq
                  · subst e; simp [List.getD, hBl, hkN]
                  · rw [← HB'.out j hj]
                    have e' : (kq == j) = false := by simp; omega
                    rw [e', Bool.or_false]
                    simp only [List.getD, List.getElem?_set_ne (show kq ≠ j by omega)]
                case measure => simp [intOf]; omega
              · go_wp2_with fail
                refine HCM.out.mono ?_
                rintro e w4 ⟨rfl, hD4⟩
                rw [hft]
                have hBk4 := (HRow.out.drew hD4).cell hkN
                rw [hs] at hBk4
                go_wp2
                go_roundw
                case rel =>
                  refine ⟨n + 1, c, B, by omega, by go_num, rfl, by omega, Lib.hid (by rw [HFS.out, HFT.out, HC.out, HKQ.out, ← HBK.out, hs]; rfl), HRow.out.drew hD4, Lib.hid (fun j hj => ?_), hb.trans (hD4.below _)⟩
                  rw [HSS.out, HFT.out, HKQ.out, Bool.true_and]
                  by_cases e : j = kq
                  · subst e; rw [← HB'.out j hj, hs]; rfl
                  · have e' : (kq == j) = false := by simp; omega
                    rw [e', Bool.or_false]; exact HB'.out j hj
                case measure => simp [intOf]; omega
          · obtain rfl : n = N := by omega
            go_wp2
            go_ret2
            refine ⟨?_, HBw3.out.trans (hb.mono (by omega))⟩
            rw [HE.out, ← HN.out, ← countOn_mask, ← HC.out]; rfl
set_option maxHeartbeats 1600000 in
set_option maxRecDepth 100000 in
theorem onClosure_any {l h l' h' lo : Nat} (p pl ps q g L N n m : Nat) (u lv v : Value) (cs : List (List Int)) (list : List Int) (B : List Bool) (w : World) (hbx : BoxF w p L u) (hol : OneC w pl 34 lv) (hos : OneC w ps 40 (.slice (some ⟨g, 0, none⟩) N N)) (hq : OneC w q 2 (.int .i64 m))
    (hrow : RowB w g g N N B) (hu : Intss w l h u cs) (hh : h ≤ w.heap.size) (hli : Ints w l' h' lv list) (hh' : h' ≤ w.heap.size) (hl : LitsAll L cs) (hn : cs.length ≤ 1048576) (hL : L ≤ 10) (hL1 : 1 ≤ L)
    (hon : onGo (L : Int) 0 list = true) (hN : N = 2 ^ L) (hv : OwnB w lo w.heap.size v (valuesN L n)) (hm : m ≤ 1024) (hgq : g ≠ q) :
    Calls Try.prog 80 #[v, .pointer (some ⟨pl, 0, none⟩), .pointer (some ⟨p, 0, none⟩), .pointer (some ⟨ps, 0, none⟩), .pointer (some ⟨q, 0, none⟩)] w fun e w' => e = .returned (.bool true) ∧
      ∃ w2, Below w.heap.size w w2 ∧ (((onModels L cs n && !B.getD (onKey L list n) false) = true ∧ w' = (w2.setCell ⟨g, onKey L list n, none⟩ (.bool true)).setCell ⟨q, 0, none⟩ (.int .i64 ((m + 1 : Nat)))) ∨ ((onModels L cs n && !B.getD (onKey L list n) false) = false ∧ w' = w2)) := by
  obtain ⟨gv, gc, e⟩ : ∃ gv gc, v = .slice (some ⟨gv, 0, none⟩) L gc := by
    rcases hv.rowOf with ⟨_, h0⟩ | ⟨g', cap, e, _⟩
    · have := valuesN_len L n; rw [h0] at this; simp at this; omega
    · exact ⟨g', cap, by rw [e, valuesN_len]⟩
  subst e
  obtain ⟨la, lcap, rfl, lc1, lc2, ld⟩ := hli.out
  have hlen : list.length ≤ 10 := by have := on_len hon; omega
  have hlenL : list.length ≤ L := on_len hon
  have HALL := Lib.hid (on_all hon)
  have HV : Hid (∀ j, j < L → w.cell? ⟨gv, j, none⟩ = some (.bool ((valuesN L n).getD j false))) := fun j hj => by
    obtain ⟨a', c', e', _, _, h3⟩ := hv.rd.out
    have hvl := valuesN_len L n
    simp only [Value.slice.injEq] at e'
    obtain ⟨rfl, _, rfl⟩ := e'
    rcases h3 with h3 | ⟨b, off, e2, _, _, _, hc⟩
    · rw [h3] at hvl; simp at hvl; omega
    · simp only [Option.some.injEq, Addr.mk.injEq] at e2
      obtain ⟨rfl, rfl, _⟩ := e2
      have := hc j (by omega)
      rwa [Nat.zero_add] at this
  have HBX := Lib.hid hbx
  have HOS := Lib.hid hos
  have HQ := Lib.hid hq
  have HROW := Lib.hid hrow
  have HU := Lib.hid hu
  have HVB := Lib.hid hv.rd
  have HN := Lib.hid hN
  have hvl := valuesN_len L n
  have HL : Hid (LitsAll (valuesN L n).length cs) := by rw [hvl]; exact hl
  have Hvl := Lib.hid hvl
  have k0 := hol.cell
  clear hbx hol hos hq hrow hu hli hl hon hv hN hvl
  go_enter Try.func80, Try.ntmps80
  go_wp2_with fail
  go_loop [7, 12] (fun kv i => ∃ k a : Nat, k ≤ list.length ∧ i = .int .i64 k ∧ kv = .int .i64 a ∧ a < 1024 ∧ Hid (a < 2 ^ k ∧ numGo a (projN L (list.drop k) n) = onKey L list n)) (fun _ i => list.length - (intOf i).toNat)
  case atStart => exact ⟨0, 0, Nat.zero_le _, rfl, rfl, by omega, Lib.hid ⟨by simp, rfl⟩⟩
  case round =>
    obtain ⟨k, a, hk, rfl, rfl, ha, H⟩ := hrel
    by_cases hlt : k < list.length
    · have HD := Lib.hid (drop_cons list k hlt)
      rcases ld with rfl | ⟨b, off, rfl, hb1, hb2, hb3, hcell⟩
      · simp at hlt
      have hck : w.cell? ⟨b, off + k, none⟩ = some (.int .i64 list[k]) := by have := hcell k hlt; simpa [List.getD, hlt] using this
      have hx := HALL.out list[k] (List.getElem_mem _)
      obtain ⟨A, hA⟩ : ∃ A : Nat, list[k] = (A : Int) + 1 := ⟨list[k].toNat - 1, by omega⟩
      rw [hA] at hck hx
      have hA2 : A < L := by omega
      have hcv := HV.out A hA2
      have HG := Lib.hid (valuesN_get L n (A + 1) (by omega) (by omega))
      have HS : Hid (numGo a (projN L (list.drop k) n) = numGo (2 * a + (bitN n (L - (A + 1))).toNat) (projN L (list.drop (k + 1)) n)) := by
        rw [Hid, HD.out, projN, List.map_cons, numGo, hA, show ((A : Int) + 1).toNat = A + 1 by omega]; rfl
      have hM : Hid (2 * a + (bitN n (L - (A + 1))).toNat < 2 ^ (k + 1) ∧ 2 * a + (bitN n (L - (A + 1))).toNat < 1024) := by
        have h1 := H.out.1
        have h2 : 2 * a + (bitN n (L - (A + 1))).toNat < 2 ^ (k + 1) := by rw [Nat.pow_succ]; have := (bitN n (L - (A + 1))).toNat_le; omega
        have h3 : 2 ^ (k + 1) ≤ 2 ^ 10 := Nat.pow_le_pow_right (by decide) (by omega)
        exact ⟨h2, by omega⟩
      clear hcell hA hx
      rw [Nat.add_sub_cancel] at HG
      rw [HG.out] at hcv
      cases hin : bitN n (L - (A + 1))
      · rw [hin] at hcv
        go_wp2
        go_round
        case rel => exact ⟨k + 1, 2 * a, by omega, by go_num, by go_num, by have := hM.out.2; rw [hin] at this; simpa using this, Lib.hid ⟨by have := hM.out.1; rw [hin] at this; simpa using this, by rw [← H.out.2, HS.out, hin]; rfl⟩⟩
        case measure => simp [intOf]; omega
      · rw [hin] at hcv
        go_wp2
        go_round
        case rel => exact ⟨k + 1, 2 * a + 1, by omega, by go_num, by go_num, by have := hM.out.2; rw [hin] at this; simpa using this, Lib.hid ⟨by have := hM.out.1; rw [hin] at this; simpa using this, by rw [← H.out.2, HS.out, hin]; rfl⟩⟩
        case measure => simp [intOf]; omega
    · obtain rfl : k = list.length := by omega
      have hkey : onKey L list n = a := by have := H.out.2; rw [drop_len _ _ (Nat.le_refl _)] at this; exact this.symm
      have haN : a < N := by
        have h1 := H.out.1
        have h2 : 2 ^ list.length ≤ 2 ^ L := Nat.pow_le_pow_right (by decide) hlenL
        rw [HN.out]; omega
      have HK := Lib.hid hkey
      clear hkey
      have c0 := HBX.out.c0
      have c1 := HBX.out.c1
      have HCH := Lib.hid (holds_any (L : Int) u _ cs (valuesN L n) w HU.out HVB.out hh (Nat.le_refl _) HL.out (by rw [Hvl.out]; omega) hn)
      cases hft : formTrue (valuesN L n) cs
      · have HFT : Hid (onModels L cs n = false) := hft
        go_wp2_with fail
        refine HCH.out.mono ?_
        rintro e w2 ⟨rfl, hb2⟩
        rw [hft]
        go_wp2
        go_ret
        exact ⟨rfl, w2, hb2, .inr ⟨by rw [HFT.out]; rfl, rfl⟩⟩
      · have HFT : Hid (onModels L cs n = true) := hft
        cases hs : B.getD a false
        all_goals
          go_wp2_with fail
          refine HCH.out.mono ?_
          rintro e w2 ⟨rfl, hb2⟩
          rw [hft]
          have hos2 := HOS.out.below hb2 HOS.out.lt
          have hq2 := HQ.out.below hb2 HQ.out.lt
          have hrow2 := HROW.out.below hb2 HROW.out.lt
          have s0 := hos2.cell
          have d0 := hrow2.cell haN
          have d1 := hrow2.frozen a
          have e0 := hq2.cell
          have e1 := hq2.free
          rw [hs] at d0
          have e2 : (w2.setCell ⟨g, a, none⟩ (.bool true)).cell? ⟨q, 0, none⟩ = some (.int .i64 m) := by rw [World.cell?_setCell_far _ _ _ _ (by exact hgq)]; exact e0
          go_wp2
          go_ret
        · exact ⟨rfl, w2, hb2, .inl ⟨by rw [HFT.out, HK.out, hs]; rfl, by rw [HK.out]; simp⟩⟩
        · exact ⟨rfl, w2, hb2, .inr ⟨by rw [HFT.out, HK.out, hs]; rfl, rfl⟩⟩
structure OnInv (w0 : World) (p pl ps q g L N : Nat) (u lv : Value) (cs : List (List Int)) (list : List Int) (n : Nat) (wr : World) : Prop where
  bx : BoxF wr p L u
  ol : OneC wr pl 34 lv
  os : OneC wr ps 40 (.slice (some ⟨g, 0, none⟩) N N)
  oq : OneC wr q 2 (.int .i64 ((freshN (onModels L cs) (onKey L list) n : Nat)))
  row : ∃ B, RowB wr g g N N B ∧ ∀ j : Nat, j < N → B.getD j false = seenBefore (onModels L cs) (onKey L list) n j
  bel : Below g w0 wr
set_option maxHeartbeats 2000000 in
set_option maxRecDepth 100000 in
theorem implCountOn_any (w : World) {l h l' h' : Nat} (v : Value) (f : FormD) (v' : Value) (list : List Int) (hv : FormR w l h v f) (hh : h ≤ w.heap.size) (hz : SmallII f.clauses) (hv' : Ints w l' h' v' list) (hh' : h' ≤ w.heap.size) (hz' : list.length ≤ 1048576) :
    Calls Try.prog 23 #[v, v'] w fun e w' => e = .returned (.tuple #[.int .i64 (countOn f list).1, .bool (countOn f list).2]) ∧ Below w.heap.size w w' := by
  obtain ⟨i0, hi, hz0, hz1, hz2⟩ := info_parts info_bool
  obtain ⟨u, rfl, hu⟩ := hv.ex
  obtain ⟨la, lcap, le, lc1, lc2, _⟩ := hv'.out
  subst le
  obtain ⟨W1, hW1⟩ : ∃ W, W = w.alloc (.cells #[.int .i64 f.letters, u] 26) := ⟨_, rfl⟩
  obtain ⟨W, hW⟩ : ∃ W, W = W1.alloc (.cells #[.slice la list.length lcap] 34) := ⟨_, rfl⟩
  have hs1 : W1.heap.size = w.heap.size + 1 := by rw [hW1]; simp
  have hsW : W.heap.size = w.heap.size + 2 := by rw [hW]; simp [hs1]
  have hB1 : Below w.heap.size w W1 := by rw [hW1]; exact alloc_below _ _
  have hB2 : Below W1.heap.size W1 W := by rw [hW]; exact alloc_below _ _
  have hBW : Below w.heap.size w W := hB1.trans (hB2.mono (by omega))
  have hbx1 : BoxF W1 w.heap.size f.letters u := by rw [hW1]; exact BoxF.new _ _ _ _
  have HB := Lib.hid (hbx1.below hB2 hbx1.lt)
  have hol : OneC W (w.heap.size + 1) 34 (.slice la list.length lcap) := by rw [hW, ← hs1]; exact OneC.new _ _ _
  have HOL := Lib.hid hol
  have HU := Lib.hid (hu.below hBW hh)
  have HF := Lib.hid (hv.below hBW hh)
  have HLI := Lib.hid (hv'.below hBW hh')
  have kL := hv.rng
  have hcl : f.clauses.length ≤ 1048576 := hz.1
  have hlist : list.length ≤ 1048576 := hz'
  clear hbx1 hu hv hv' hB1 hB2 hol
  go_enter Try.func23, Try.ntmps23
  go_wp2_with fail
  rw [← hW1, ← hW]
  have q0 := HB.out.c0
  have q1 := HB.out.c1
  clear hW hW1
  go_wp2_with fail
  refine (implValidForm_any W _ _ HF.out (by omega) hz).mono ?_
  rintro e w2 ⟨rfl, hb2⟩
  have hs2 := hb2.size
  clear q0 q1
  cases hval : validForm f
  · have HE := Lib.hid (show countOn f list = (0, false) by simp [countOn, hval])
    go_wp2
    go_ret2
    exact ⟨by rw [HE.out]; rfl, hBW.trans (hb2.mono hBW.size)⟩
  · obtain ⟨L, hL, hL1, hL2⟩ := lettersN hval
    have hB2 := HB.out.below hb2 HB.out.lt
    rw [hL] at hB2
    have HB2 := Lib.hid hB2
    have HU2 := Lib.hid (HU.out.below hb2 (by omega))
    have HLA := Lib.hid (litsAll_of_valid hL hval)
    have HLI2 := Lib.hid (HLI.out.below hb2 (by omega))
    have HOL2 := Lib.hid (HOL.out.below hb2 HOL.out.lt)
    have hon : onGo (L : Int) 0 list = (risesI list && list.all (inB 1 (L : Int))) := onGo_zero _ _
    have HON := Lib.hid hon
    have HNo := Lib.hid (fun (ho : onGo (L : Int) 0 list = false) => show countOn f list = (0, false) by rw [← hL] at ho; simp [countOn, ho])
    have HYes := Lib.hid (fun (ho : onGo (L : Int) 0 list = true) => countOn_valid hval (by rw [hL]; exact ho) hL)
    have hBw2 : Below w.heap.size w w2 := hBW.trans (hb2.mono hBW.size)
    have q2 := HOL2.out.cell
    clear hval hB2 hL hon
    cases hr : risesI list
    · have HN := Lib.hid (HNo.out (by rw [HON.out, hr]; rfl))
      go_wp2_with fail
      refine (isRising_any _ list w2 HLI2.out hlist).mono ?_
      rintro e w3 ⟨rfl, hD3⟩
      go_wp2
      go_ret2
      exact ⟨by rw [HN.out]; rfl, hBw2.trans (hD3.below _)⟩
    go_wp2_with fail
    refine (isRising_any _ list w2 HLI2.out hlist).mono ?_
    rintro e w3 ⟨rfl, hD3⟩
    have hs3 : w3.heap.size = w2.heap.size := by rw [hD3.heap]
    have HS3 := Lib.hid hs3
    have HB3 := Lib.hid (HB2.out.drew hD3)
    have HOL3 := Lib.hid (HOL2.out.drew hD3)
    have HLI3 := Lib.hid (HLI2.out.drew hD3)
    have HU3 := Lib.hid (HU2.out.drew hD3)
    have q0 := HB3.out.c0
    have q1 := HB3.out.c1
    have q3 := HOL3.out.cell
    clear hs3 q2
    cases ha : list.all (inB 1 (L : Int))
    · have HN := Lib.hid (HNo.out (by rw [HON.out, hr, ha]; rfl))
      go_wp2_with (go_at_call 79; refine (allWithin_any _ _ _ list _ _ _ HLI3.out).mono ?_; rintro e w' ⟨rfl, rfl⟩)
      go_ret2
      exact ⟨by rw [HN.out]; rfl, hBw2.trans (hD3.below _)⟩
    have hon : onGo (L : Int) 0 list = true := by rw [HON.out, hr, ha]; rfl
    have HE := Lib.hid (HYes.out hon)
    have HOn := Lib.hid hon
    obtain ⟨N, hN⟩ : ∃ N : Nat, N = 2 ^ L := ⟨_, rfl⟩
    have hsh := (shl_one L hL2).1
    have hN2 := (shl_one L hL2).2
    rw [← hN] at hsh hN2
    have HN := Lib.hid hN
    clear hon hN HNo HYes
    go_wp2_with (first | (go_at_call 79; refine (allWithin_any _ _ _ list _ _ _ HLI3.out).mono ?_; rintro e w' ⟨rfl, rfl⟩) | (refine wpList_make_full _ rfl _ _ 40 rfl w3.heap.size 4 i0 (.bool false) 1 Try.underlying40 hi hz0 hz1 .i64 .i64 _ _ N rfl rfl rfl rfl ?c1 (by unfold maxLen; omega) ?c2 ?_))
    case c1 => rw [hz2]; omega
    case c2 => exact Nat.le_refl _
    intro w4 hown hg
    have hrow0 : RowB w4 w3.heap.size w3.heap.size N N (List.replicate N false) := RowB.made hown
    have hb0 : Below w3.heap.size w3 w4 := (Below.refl _ _).grown hg (Nat.le_refl _) (fun k hk => by cases hk)
    have hg3 := hrow0.lt
    obtain ⟨g, hgg⟩ : ∃ g : Nat, g = w3.heap.size := ⟨_, rfl⟩
    rw [← hgg] at hrow0 hb0 hg3
    rw [← hgg]
    have hgw : w.heap.size + 1 < g := by have := HS3.out; omega
    have hgh : h ≤ g := by omega
    have hgh' : h' ≤ g := by omega
    have HB4 := Lib.hid (HB3.out.below hb0 (by omega))
    have HOL4 := Lib.hid (HOL3.out.below hb0 (by omega))
    have HU4 := Lib.hid (HU3.out.below hb0 (by omega))
    have HLI4 := Lib.hid (HLI3.out.below hb0 (by omega))
    have HBw4 := Lib.hid ((hBw2.trans (hD3.below _)).trans (hb0.mono (by omega)))
    obtain ⟨W5, hW5⟩ : ∃ W, W = w4.alloc (.cells #[.slice (some ⟨g, 0, none⟩) N N] 40) := ⟨_, rfl⟩
    obtain ⟨W6, hW6⟩ : ∃ W, W = W5.alloc (.cells #[.int .i64 0] 2) := ⟨_, rfl⟩
    have hs5 : W5.heap.size = w4.heap.size + 1 := by rw [hW5]; simp
    have hs6 : W6.heap.size = w4.heap.size + 2 := by rw [hW6]; simp [hs5]
    have hb5 : Below w4.heap.size w4 W5 := by rw [hW5]; exact alloc_below _ _
    have hb6 : Below W5.heap.size W5 W6 := by rw [hW6]; exact alloc_below _ _
    have hb46 : Below w4.heap.size w4 W6 := hb5.trans (hb6.mono (by omega))
    have os5 : OneC W5 w4.heap.size 40 (.slice (some ⟨g, 0, none⟩) N N) := by rw [hW5]; exact OneC.new _ _ _
    have HOS6 := Lib.hid (os5.below hb6 os5.lt)
    have oq6 : OneC W6 (w4.heap.size + 1) 2 (.int .i64 0) := by rw [hW6, ← hs5]; exact OneC.new _ _ _
    have HOQ6 := Lib.hid oq6
    have HB6 := Lib.hid (HB4.out.below hb46 (by omega))
    have HOL6 := Lib.hid (HOL4.out.below hb46 (by omega))
    have HU6 := Lib.hid (HU4.out.below hb46 (by omega))
    have HLI6 := Lib.hid (HLI4.out.below hb46 (by omega))
    have HROW6 := Lib.hid (hrow0.below hb46 hg3)
    have p0 := HB6.out.c0
    rw [hW6, hW5] at p0
    have HM0 : Hid (freshN (onModels L f.clauses) (onKey L list) 0 = 0) := rfl
    clear hown hg hgg hrow0 hb5 hb6 os5 oq6 q0 q1 q3
    go_wp2_with fail
    rw [← hW5, ← hW6]
    clear p0 hW5 hW6
    refine (eachValues_any L hL2 80 (fun _ _ => by kernel_rfl) _ W6 (OnInv W6 w.heap.size (w.heap.size + 1) w4.heap.size (w4.heap.size + 1) g L N u (.slice la list.length lcap) f.clauses list) (OnInv W6 w.heap.size (w.heap.size + 1) w4.heap.size (w4.heap.size + 1) g L N u (.slice la list.length lcap) f.clauses list N) ⟨HB6.out, HOL6.out, HOS6.out, by rw [HM0.out]; exact HOQ6.out, ⟨_, HROW6.out, fun j _ => by rw [replicate_getD]; rfl⟩, Below.refl _ _⟩ ?_ ?_ ?_).mono ?_
    · rintro n wr wr' hs ⟨i1, i2, i3, i4, ⟨B, i5, i6⟩, i7⟩ hb
      exact ⟨i1.below hb i1.lt, i2.below hb i2.lt, i3.below hb i3.lt, i4.below hb i4.lt, ⟨B, i5.below hb i5.lt, i6⟩, i7.trans (hb.mono (by have := i5.lt; omega))⟩
    · rintro n wr vv lo hlt hlo ⟨i1, i2, i3, i4, ⟨B, i5, i6⟩, i7⟩ hvv
      have hfl := freshN_le (onModels L f.clauses) (onKey L list) n
      have hp := pow_L hL2
      have hz7 := i7.size
      have hkl : onKey L list n < N := by
        have h1 := numGo_lt 0 (projN L list n)
        have h2 : (projN L list n).length ≤ L := by rw [projN, List.length_map]; exact on_len HOn.out
        have h3 : 2 ^ (projN L list n).length ≤ 2 ^ L := Nat.pow_le_pow_right (by decide) h2
        rw [HN.out]; unfold onKey; omega
      refine (onClosure_any w.heap.size (w.heap.size + 1) w4.heap.size (w4.heap.size + 1) g L N n _ u _ vv f.clauses list B wr i1 i2 i3 i4 i5 (HU6.out.below i7 hgh) (by omega) (HLI6.out.below i7 hgh') (by omega) HLA.out hcl hL2 hL1 HOn.out HN.out hvv (by omega) (by omega)).mono ?_
      rintro e w' ⟨rfl, w5, hb, ⟨hc, rfl⟩ | ⟨hc, rfl⟩⟩
      · have hsz5 := hb.size
        have j1 := i1.below hb i1.lt
        have j2 := i2.below hb i2.lt
        have j3 := i3.below hb i3.lt
        have j4 := i4.below hb i4.lt
        have j5 := i5.below hb i5.lt
        have hsA : Same g (g + 1) w5 (w5.setCell ⟨g, onKey L list n, none⟩ (.bool true)) := set1_same _ _ _ _
        have hsB : Same (w4.heap.size + 1) (w4.heap.size + 2) (w5.setCell ⟨g, onKey L list n, none⟩ (.bool true)) ((w5.setCell ⟨g, onKey L list n, none⟩ (.bool true)).setCell ⟨w4.heap.size + 1, 0, none⟩ (.int .i64 ((freshN (onModels L f.clauses) (onKey L list) n + 1 : Nat)))) := set1_same _ _ _ _
        have zA := hsA.size
        have zB := hsB.size
        simp only [Bool.and_eq_true, Bool.not_eq_true'] at hc
        have hBl := i5.length
        have hsn : seenBefore (onModels L f.clauses) (onKey L list) n (onKey L list n) = false := by rw [← i6 _ hkl]; exact hc.2
        refine ⟨by omega, .inl ⟨rfl, (j1.same hsA (by omega)).same hsB (by omega), (j2.same hsA (by omega)).same hsB (by omega), (j3.same hsA (by omega)).same hsB (by omega), ?_, ⟨_, (j5.stored (onKey L list n) true).other (by simp; omega) _, fun j hj => ?_⟩, ?_⟩⟩
        · rw [freshN_succ, hc.1, hsn]
          exact (j4.same hsA (by omega)).set _
        · rw [seenBefore_succ, hc.1, Bool.true_and]
          by_cases e : j = onKey L list n
          · subst e; simp [List.getD, hBl, hkl]
          · rw [← i6 j hj]
            have e' : (onKey L list n == j) = false := by simp; omega
            rw [e', Bool.or_false]
            simp only [List.getD, List.getElem?_set_ne (show onKey L list n ≠ j by omega)]
        · exact ((i7.trans (hb.mono (by omega))).trans (hsA.below (Nat.le_refl _) (by omega))).trans (hsB.below (by omega) (by omega))
      · have hcc : onModels L f.clauses n = true → B.getD (onKey L list n) false = true := fun h => by rw [h, Bool.true_and] at hc; simpa using hc
        have hfr : freshN (onModels L f.clauses) (onKey L list) (n + 1) = freshN (onModels L f.clauses) (onKey L list) n := by
          rw [freshN_succ, ← i6 _ hkl, hc]; rfl
        refine ⟨hb.size, .inl ⟨rfl, i1.below hb i1.lt, i2.below hb i2.lt, i3.below hb i3.lt, by rw [hfr]; exact i4.below hb i4.lt, ⟨B, i5.below hb i5.lt, fun j hj => ?_⟩, i7.trans (hb.mono (by omega))⟩⟩
        rw [seenBefore_succ, ← i6 j hj]
        cases hM : onModels L f.clauses n
        · simp
        · by_cases e : j = onKey L list n
          · subst e; rw [hcc hM]; rfl
          · have e' : (onKey L list n == j) = false := by simp; omega
            rw [e', Bool.and_false, Bool.or_false]
    · rintro wr _ hi
      rw [HN.out]; rw [HN.out] at hi; exact hi
    · rintro e w7 ⟨rfl, hs7, i1, i2, i3, i4, i5, i7⟩
      have c2 := i4.cell
      go_wp2
      go_ret2
      refine ⟨?_, HBw4.out.trans ((hb46.mono (by omega)).trans (i7.mono (by omega)))⟩
      rw [HE.out, ← HN.out]; rfl
end Go.Proofs.Ytcpbgjnijhcpkaa
