/-
  FrontCost: contracts in the reference and in the program.
-/
import Derived.Test.YtgbomnhidfejbaaLay
import Derived.Test.YtgbomnhidfejbaaSort
import Derived.Test.YtgbomnhidfejbaaDue
namespace Go.Proofs.Ytgbomnhidfejbaa
open Go.RowKit
set_option linter.unusedVariables false

/-! ### Move to front -/
def posOf : List Int → Int → Nat
  | [], _ => 0
  | y :: r, x => if y = x then 0 else posOf r x + 1
theorem posOf_spec {L : List Int} {x : Int} (h : x ∈ L) : posOf L x < L.length ∧ L.getD (posOf L x) 0 = x ∧ ∀ j, j < posOf L x → L.getD j 0 ≠ x := by
  induction L with
  | nil => simp at h
  | cons y r ih =>
    rw [posOf]
    by_cases hy : y = x
    · rw [if_pos hy]
      exact ⟨by simp, by simp [hy], fun j hj => by omega⟩
    · rw [if_neg hy]
      have hr : x ∈ r := by
        rcases List.mem_cons.1 h with h | h
        · exact absurd h.symm hy
        · exact h
      obtain ⟨h1, h2, h3⟩ := ih hr
      refine ⟨by simp; omega, by simpa [List.getD] using h2, fun j hj => ?_⟩
      cases j with
      | zero => simpa [List.getD] using hy
      | succ j => have := h3 j (by omega); simpa [List.getD] using this
theorem posOf_eq {L : List Int} {x : Int} {k : Nat} (hk : k < L.length) (hx : L.getD k 0 = x) (hn : ∀ j, j < k → L.getD j 0 ≠ x) : posOf L x = k := by
  have hm : x ∈ L := by rw [← hx]; exact getD_mem hk
  obtain ⟨h1, h2, h3⟩ := posOf_spec hm
  rcases Nat.lt_trichotomy (posOf L x) k with h | h | h
  · exact absurd h2 (hn _ h)
  · exact h
  · exact absurd hx (h3 _ h)
def mtf (L : List Int) (x : Int) : List Int := x :: (L.take (posOf L x) ++ L.drop (posOf L x + 1))
def frontGo : List Int → List Int → Int → Int × List Int
  | [], L, c => (c, L)
  | a :: r, L, c => frontGo r (mtf L a) (c + ((posOf L a : Int) + 1))
def upTo : Nat → List Int
  | 0 => []
  | n + 1 => upTo n ++ [(n : Int)]
theorem upTo_len (n : Nat) : (upTo n).length = n := by
  induction n with
  | zero => rfl
  | succ n ih => simp [upTo, ih]
theorem upTo_mem (n : Nat) (x : Int) : x ∈ upTo n ↔ 0 ≤ x ∧ x < (n : Int) := by
  induction n with
  | zero => simp [upTo]
  | succ n ih => simp only [upTo, List.mem_append, ih, List.mem_singleton]; omega
/-- the list holds just the numbers below n -/
def Full (n : Nat) (L : List Int) : Prop := L.length = n ∧ (∀ x ∈ L, 0 ≤ x ∧ x < (n : Int)) ∧ ∀ x, 0 ≤ x → x < (n : Int) → x ∈ L
theorem upTo_full (n : Nat) : Full n (upTo n) := ⟨upTo_len n, fun x h => (upTo_mem n x).1 h, fun x h1 h2 => (upTo_mem n x).2 ⟨h1, h2⟩⟩
theorem mtf_len {L : List Int} {x : Int} (h : x ∈ L) : (mtf L x).length = L.length := by
  have := (posOf_spec h).1
  simp [mtf]; omega
theorem split_at {L : List Int} {k : Nat} (hk : k < L.length) : L = L.take k ++ L.getD k 0 :: L.drop (k + 1) := by
  have := List.take_append_drop k L
  rw [List.drop_eq_getElem_cons hk] at this
  simp only [List.getD, List.getElem?_eq_getElem hk, Option.getD_some]
  exact this.symm
theorem mtf_mem {L : List Int} {x : Int} (h : x ∈ L) (y : Int) : y ∈ mtf L x ↔ y ∈ L := by
  obtain ⟨h1, h2, _⟩ := posOf_spec h
  have e := split_at h1
  rw [h2] at e
  constructor
  · intro hy
    rw [e]
    simp only [mtf, List.mem_cons, List.mem_append] at hy ⊢
    rcases hy with hy | hy | hy <;> simp [hy]
  · intro hy
    rw [e] at hy
    simp only [mtf, List.mem_cons, List.mem_append] at hy ⊢
    rcases hy with hy | hy | hy <;> simp [hy]
theorem Full.mtf {n : Nat} {L : List Int} (h : Full n L) {x : Int} (h0 : 0 ≤ x) (hx : x < (n : Int)) : Full n (mtf L x) := by
  have hm := h.2.2 x h0 hx
  exact ⟨by rw [mtf_len hm]; exact h.1, fun y hy => h.2.1 y ((mtf_mem hm y).1 hy), fun y h1 h2 => (mtf_mem hm y).2 (h.2.2 y h1 h2)⟩
/-- the shift by hand -/
def shiftTo : Nat → List Int → List Int
  | 0, C => C
  | p + 1, C => shiftTo p (C.set (p + 1) (C.getD p 0))
theorem shiftTo_len (p : Nat) (C : List Int) : (shiftTo p C).length = C.length := by
  induction p generalizing C with
  | zero => rfl
  | succ p ih => rw [shiftTo, ih, List.length_set]
theorem shiftTo_getD (p : Nat) (C : List Int) (hp : p < C.length) (j : Nat) : (shiftTo p C).getD j 0 = if 1 ≤ j ∧ j ≤ p then C.getD (j - 1) 0 else C.getD j 0 := by
  induction p generalizing C with
  | zero => rw [shiftTo, if_neg (by omega)]
  | succ p ih =>
    rw [shiftTo, ih _ (by simp; omega)]
    have e : ∀ i, (C.set (p + 1) (C.getD p 0)).getD i 0 = if i = p + 1 then C.getD p 0 else C.getD i 0 := by
      intro i
      by_cases hi : i = p + 1
      · subst hi; rw [if_pos rfl]; simp [List.getD, hp]
      · rw [if_neg hi]; simp only [List.getD]; rw [List.getElem?_set_ne (by omega)]
    rw [e, e]
    by_cases h1 : 1 ≤ j ∧ j ≤ p
    · rw [if_pos h1, if_pos (show 1 ≤ j ∧ j ≤ p + 1 by omega), if_neg (by omega)]
    · rw [if_neg h1]
      by_cases h2 : j = p + 1
      · subst h2; rw [if_pos rfl, if_pos (by omega)]; rfl
      · rw [if_neg h2, if_neg (by omega)]
theorem ext_getD {A B : List Int} (hl : A.length = B.length) (h : ∀ j, j < A.length → A.getD j 0 = B.getD j 0) : A = B := by
  refine List.ext_getElem hl fun j h1 h2 => ?_
  have := h j h1
  simpa [List.getD, h1, h2] using this
theorem mtf_getD (L : List Int) (p : Nat) (hp : p < L.length) (i : Nat) : (L.take p ++ L.drop (p + 1)).getD i 0 = if i < p then L.getD i 0 else L.getD (i + 1) 0 := by
  have hl : (L.take p).length = p := by simp; omega
  by_cases hi : i < p
  · rw [if_pos hi]
    simp only [List.getD]
    rw [List.getElem?_append_left (by rw [hl]; exact hi), List.getElem?_take_of_lt hi]
  · rw [if_neg hi]
    simp only [List.getD]
    rw [List.getElem?_append_right (by rw [hl]; omega), hl, List.getElem?_drop, show p + 1 + (i - p) = i + 1 by omega]
theorem shift_mtf {L : List Int} {x : Int} (h : x ∈ L) : (shiftTo (posOf L x) L).set 0 x = mtf L x := by
  have h1 := (posOf_spec h).1
  have hl : ((shiftTo (posOf L x) L).set 0 x).length = (mtf L x).length := by rw [List.length_set, shiftTo_len, mtf_len h]
  refine ext_getD hl fun j hj => ?_
  rw [List.length_set, shiftTo_len] at hj
  cases j with
  | zero =>
    have : 0 < (shiftTo (posOf L x) L).length := by rw [shiftTo_len]; omega
    simp [List.getD, mtf, this]
  | succ i =>
    have e1 : ((shiftTo (posOf L x) L).set 0 x).getD (i + 1) 0 = (shiftTo (posOf L x) L).getD (i + 1) 0 := by
      simp only [List.getD]; rw [List.getElem?_set_ne (by omega)]
    have e2 : (mtf L x).getD (i + 1) 0 = (L.take (posOf L x) ++ L.drop (posOf L x + 1)).getD i 0 := by simp [mtf, List.getD]
    rw [e1, e2, shiftTo_getD _ _ h1, mtf_getD _ _ h1]
    by_cases hi : i < posOf L x
    · rw [if_pos (by omega), if_pos hi]; rfl
    · rw [if_neg (by omega), if_neg hi]
def okFront (asks : List Int) (n : Int) : Bool := inB 1 64 n && (asks.all (inB 0 (n - 1)) && inB 1 64 (asks.length : Int))
def frontCost (asks : List Int) (n : Int) : Int × List Int × Bool := if okFront asks n then ((frontGo asks (upTo n.toNat) 0).1, (frontGo asks (upTo n.toNat) 0).2, true) else (0, [], false)
theorem okFront_out {asks : List Int} {n : Int} (h : okFront asks n = true) : (1 ≤ n ∧ n ≤ 64) ∧ (∀ x ∈ asks, 0 ≤ x ∧ x < n) ∧ 0 < asks.length ∧ asks.length ≤ 64 := by
  simp only [okFront, Bool.and_eq_true, List.all_eq_true] at h
  have h2 := inB_true h.2.2
  exact ⟨inB_true h.1, fun x hx => by have := inB_true (h.2.1 x hx); omega, by omega, by omega⟩
set_option maxHeartbeats 400000 in
set_option maxRecDepth 100000 in
theorem l06Asks_any {l h : Nat} (v : Value) (zs : List Int) (n : Int) (w : World) (hn : 1 ≤ n ∧ n ≤ 64) (hv : Ints w l h v zs) :
    Calls Try.prog 52 #[v, .int .i64 n] w fun e w' => e = .returned (.bool (zs.all (inB 0 (n - 1)) && inB 1 64 (zs.length : Int))) ∧ w = w' := by
  obtain ⟨a, cap, rfl, hc1, hc2, hd⟩ := hv.out
  go_enter Try.func52, Try.ntmps52
  go_wp2_with fail
  go_loop [5] (fun i => ∃ k : Nat, k ≤ zs.length ∧ i = .int .i64 k ∧ Hid ((zs.drop k).all (inB 0 (n - 1)) = zs.all (inB 0 (n - 1)))) (fun i => zs.length - (intOf i).toNat)
  case atStart => exact ⟨0, Nat.zero_le _, rfl, Lib.hid (by simp)⟩
  case round =>
    obtain ⟨k, hk, rfl, H⟩ := hrel
    by_cases hlt : k < zs.length
    · have HD := Lib.hid (drop_cons zs k hlt)
      rcases hd with rfl | ⟨b, off, rfl, hb1, hb2, hb3, hcell⟩
      · simp at hlt
      have hck := hcell k hlt
      clear hcell
      cases hin : inB 0 (n - 1) zs[k]
      · go_wp2_with (go_at_call 53; refine (l00In_any _ _ _ _).mono ?_; rintro e w' ⟨rfl, rfl⟩)
        go_ret
        exact ⟨ret_bool (by rw [← H.out, HD.out, List.all_cons, hin, Bool.false_and, Bool.false_and]), rfl⟩
      · go_wp2_with (go_at_call 53; refine (l00In_any _ _ _ _).mono ?_; rintro e w' ⟨rfl, rfl⟩)
        go_round
        case rel => exact ⟨k + 1, by omega, by go_num, Lib.hid (by rw [← H.out, HD.out, List.all_cons, hin, Bool.true_and])⟩
        case measure => simp [intOf]; omega
    · have HA : Hid (zs.all (inB 0 (n - 1)) = true) := by rw [Hid, ← H.out, drop_len _ _ (by omega), List.all_nil]
      by_cases h1 : 1 ≤ zs.length
      · have h1i : (1 : Int) ≤ (zs.length : Int) := by omega
        by_cases h2 : zs.length ≤ 64
        · go_wp2
          go_ret
          exact ⟨ret_bool (by rw [HA.out]; simp [inB]; omega), rfl⟩
        · go_wp2
          go_ret
          exact ⟨ret_bool (by rw [HA.out]; simp [inB]; omega), rfl⟩
      · have h1i : ¬ (1 : Int) ≤ (zs.length : Int) := by omega
        go_wp2
        go_ret
        exact ⟨ret_bool (by rw [HA.out]; simp [inB]; omega), rfl⟩
set_option maxHeartbeats 2000000 in
set_option maxRecDepth 100000 in
theorem specFrontCost_any (w : World) {l h : Nat} (v : Value) (asks : List Int) (n : Int) (hv : Ints w l h v asks) (hh : h ≤ w.heap.size) (hz : asks.length ≤ 1048576) (kn : I64 n) :
    Calls Try.prog 39 #[v, .int .i64 n] w fun e w' => ∃ r, e = .returned (.tuple #[.int .i64 (frontCost asks n).1, r, .bool (frontCost asks n).2.2]) ∧ OwnI w' w.heap.size w'.heap.size r (frontCost asks n).2.1 ∧ Below w.heap.size w w' := by
  have HV := Lib.hid hv
  obtain ⟨a, cap, rfl, hc1, hc2, hd⟩ := hv.out
  clear hv
  cases hn : inB 1 64 n
  · have HE := Lib.hid (show frontCost asks n = (0, [], false) by simp [frontCost, okFront, hn])
    go_enter Try.func39, Try.ntmps39
    go_wp2_with fail
    refine (l00In_any _ _ _ _).mono ?_
    rintro e w' ⟨rfl, rfl⟩
    rw [hn]
    go_wp2
    go_ret3
    exact ⟨_, by rw [HE.out]; rfl, by rw [HE.out]; exact OwnI.nil _ _ _ (Nat.le_refl _), Below.refl _ _⟩
  have bn := inB_true hn
  cases hA : (asks.all (inB 0 (n - 1)) && inB 1 64 (asks.length : Int))
  · have HE := Lib.hid (show frontCost asks n = (0, [], false) by simp only [frontCost, okFront, hA, Bool.and_false]; rfl)
    go_enter Try.func39, Try.ntmps39
    go_wp2_with fail
    refine (l00In_any _ _ _ _).mono ?_
    rintro e w' ⟨rfl, rfl⟩
    rw [hn]
    go_wp2_with fail
    refine (l06Asks_any _ asks n _ bn HV.out).mono ?_
    rintro e w' ⟨rfl, rfl⟩
    rw [hA]
    go_wp2
    go_ret3
    exact ⟨_, by rw [HE.out]; rfl, by rw [HE.out]; exact OwnI.nil _ _ _ (Nat.le_refl _), Below.refl _ _⟩
  have hok : okFront asks n = true := by rw [okFront, hn, hA]; rfl
  obtain ⟨_, h2, h3, h4⟩ := okFront_out hok
  obtain ⟨N, rfl⟩ : ∃ N : Nat, n = (N : Int) := ⟨n.toNat, by omega⟩
  have HE := Lib.hid (show frontCost asks (N : Int) = ((frontGo asks (upTo N) 0).1, (frontGo asks (upTo N) 0).2, true) by simp [frontCost, hok])
  have HB := Lib.hid h2
  have hN1 : 1 ≤ N := by omega
  have hN2 : N ≤ 64 := by omega
  rcases hd with hd | ⟨b, off, rfl, hb1, hb2, hb3, hcell⟩
  · rw [hd] at h3; simp at h3
  have AC : Hid (∀ (wx : World) (j : Nat), Below w.heap.size w wx → j < asks.length → wx.cell? ⟨b, off + j, none⟩ = some (.int .i64 (asks.getD j 0))) := fun wx j hbx hj => by
    rw [hbx.cell (p := ⟨b, off + j, none⟩) (show b < w.heap.size by omega)]; exact hcell j hj
  have h0 := emptySlice w
  clear hcell h2 hok
  go_enter Try.func39, Try.ntmps39
  go_wp2_with fail
  refine (l00In_any _ _ _ _).mono ?_
  rintro e w' ⟨rfl, rfl⟩
  rw [hn]
  go_wp2_with fail
  refine (l06Asks_any _ asks N _ bn HV.out).mono ?_
  rintro e w' ⟨rfl, rfl⟩
  rw [hA]
  clear hn hA
  go_wp2_with fail
  go_loopw [7, 8] (fun ov i wr => ∃ q : Nat, q ≤ N ∧ i = .int .i64 q ∧ OwnI wr w.heap.size wr.heap.size ov (upTo q) ∧ Below w.heap.size w wr) (fun _ i _ => N - (intOf i).toNat)
  case atStart => exact ⟨0, Nat.zero_le _, rfl, by simpa [upTo] using h0, below_newW _ _⟩
  case round =>
    clear h0
    obtain ⟨q, hq, rfl, ho, hb⟩ := hrel
    have hs := hb.size
    have HO := Lib.hid ho
    have hol : (upTo q).length ≤ 64 := by rw [upTo_len]; omega
    by_cases hlt : q < N
    · have HS : Hid (upTo (q + 1) = upTo q ++ [(q : Int)]) := rfl
      clear ho
      go_wp2_with (at_builtin; refine wpList_app1 rfl _ _ rfl _ (upTo q) rfl (q : Int) _ HO.out rfl (by constructor <;> omega) (by omega) hs ?_)
      intro v2 w3 ho2 hsm hz3 _
      have HO2 : Hid (OwnI w3 w.heap.size w3.heap.size v2 (upTo (q + 1))) := by rw [Hid, HS.out]; exact ho2
      clear ho2
      go_wp2
      go_roundw
      case rel => exact ⟨q + 1, by omega, by go_num, HO2.out, hb.trans (hsm.below (Nat.le_refl _) hs)⟩
      case measure => simp [intOf]; omega
    · obtain rfl : N = q := by omega
      rcases ho.rowOf with ⟨_, e⟩ | ⟨g, gc, rfl, hg1, hg2, hg3, hrow⟩
      · have := upTo_len N; rw [e] at this; simp at this; omega
      rw [upTo_len] at hrow hg2
      have hul := upTo_len N
      rw [hul]
      obtain ⟨w9, hw9⟩ : ∃ w9, w9 = wr := ⟨_, rfl⟩
      subst hw9
      have HR := Lib.hid hrow
      have HBL := Lib.hid hb
      have hgl : w.heap.size ≤ g := hrow.ge
      clear ho HO hul hrow hb hol
      go_wp2_with fail
      go_loopw [9, 10] (fun cv i wr => ∃ (k : Nat) (c : Int) (L : List Int), k ≤ asks.length ∧ i = .int .i64 k ∧ cv = .int .i64 c ∧ 0 ≤ c ∧ c ≤ 64 * (k : Int) ∧ Hid (frontGo (asks.drop k) L c = frontGo asks (upTo N) 0) ∧ Hid (Full N L) ∧ RowI wr w.heap.size g N gc L ∧ Below w.heap.size w wr) (fun _ i _ => asks.length - (intOf i).toNat)
      case atStart => exact ⟨0, 0, _, Nat.zero_le _, rfl, rfl, by omega, by omega, Lib.hid rfl, Lib.hid (upTo_full N), HR.out, HBL.out⟩
      case round =>
        clear HR HBL
        obtain ⟨k, c, L, hk, rfl, rfl, hc0, hck, H, HF, hr, hb⟩ := hrel
        have HR := Lib.hid hr
        by_cases hka : k < asks.length
        · have HD := Lib.hid (drop_cons asks k hka)
          have hx := HB.out asks[k] (List.getElem_mem _)
          have hac := AC.out wr k hb hka
          have hge : asks.getD k 0 = asks[k] := by simp [List.getD, hka]
          rw [hge] at hac
          obtain ⟨x, hxx⟩ : ∃ x, x = asks[k] := ⟨_, rfl⟩
          rw [← hxx] at hx hac HD
          have hm : x ∈ L := HF.out.2.2 x hx.1 hx.2
          obtain ⟨p1, p2, p3⟩ := posOf_spec hm
          have HMT := Lib.hid (shift_mtf hm)
          have HFM := Lib.hid (HF.out.mtf hx.1 hx.2)
          have HST : Hid (frontGo (asks.drop k) L c = frontGo (asks.drop (k + 1)) (mtf L x) (c + ((posOf L x : Int) + 1))) := by rw [Hid, HD.out, frontGo]
          have hLl : L.length = N := HF.out.1
          have AC2 : Hid (∀ (wx : World), Below w.heap.size w wx → wx.cell? ⟨b, off + k, none⟩ = some (.int .i64 x)) := fun wx hbx => by
            rw [AC.out wx k hbx hka, hge, hxx]
          obtain ⟨p, hp⟩ : ∃ p, p = posOf L x := ⟨_, rfl⟩
          rw [← hp] at p1 p2 p3 HMT HST
          have P2 := Lib.hid p2
          have P3 := Lib.hid p3
          have hpN : p < N := by omega
          have HBB := Lib.hid hb
          obtain ⟨w7, hw7⟩ : ∃ w7, w7 = wr := ⟨_, rfl⟩
          subst hw7
          clear hm hxx hge hp p2 p3 hr hb hac HD
          go_wp2_with fail
          go_loopw [11] (fun jv wr => ∃ j : Nat, j ≤ p ∧ jv = .int .i64 j ∧ Drew w7 wr) (fun jv _ => p - (intOf jv).toNat)
          case atStart => exact ⟨0, Nat.zero_le _, rfl, Drew.refl _⟩
          case round =>
            obtain ⟨j, hj, rfl, hD⟩ := hrel
            have hRx := HR.out.drew hD
            have cj := hRx.cell (show j < N by omega)
            have hbx := HBB.out.trans (hD.below w.heap.size)
            have ca := AC2.out _ hbx
            have HRX := Lib.hid hRx
            have HBX := Lib.hid hbx
            have HDD := Lib.hid hD
            clear hRx hbx hD
            by_cases hjp : j < p
            · have hne := P3.out j hjp
              obtain ⟨lj, hlj⟩ : ∃ y, y = L.getD j 0 := ⟨_, rfl⟩
              rw [← hlj] at cj hne
              have hne' : (lj != x) = true := by simpa using hne
              clear hlj
              go_wp2_with fail
              go_quiet (fail)
              go_wp2
              go_roundw
              case rel => exact ⟨j + 1, by omega, by go_num, HDD.out.step _⟩
              case measure => (simp [intOf]; try omega)
            · obtain rfl : p = j := by omega
              rw [P2.out] at cj
              have hne' : (x != x) = false := by simp
              go_wp2_with fail
              go_quiet (fail)
              obtain ⟨w8, hw8⟩ : ∃ w8, w8 = wr.drewN nq := ⟨_, rfl⟩
              rw [← hw8]
              have hR8 : RowI w8 w.heap.size g N gc L := by rw [hw8]; exact HRX.out.drewN _
              have hB8 : Below w.heap.size w w8 := by rw [hw8]; exact HBX.out.trans ((Drew.one _ _).below _)
              have HR8 := Lib.hid hR8
              have HB8 := Lib.hid hB8
              clear hw8 hR8 hB8 cj ca hne'
              go_wp2_with fail
              go_loopw [11] (fun jv wr => ∃ (j : Nat) (C : List Int), j ≤ p ∧ jv = .int .i64 j ∧ Hid (shiftTo j C = shiftTo p L) ∧ RowI wr w.heap.size g N gc C ∧ Below w.heap.size w wr) (fun jv _ => (intOf jv).toNat)
              case atStart => exact ⟨p, _, Nat.le_refl _, rfl, Lib.hid rfl, HR8.out, HB8.out⟩
              case round =>
                obtain ⟨j, C, hj, rfl, HS, hr, hb⟩ := hrel
                have HRC := Lib.hid hr
                have HBC := Lib.hid hb
                have hCl := hr.length
                by_cases hj0 : 0 < j
                · obtain ⟨i, hi⟩ : ∃ i, j = i + 1 := ⟨j - 1, by omega⟩
                  subst hi
                  have ci := hr.cell (show i < N by omega)
                  have fi := hr.frozen (i + 1)
                  have cj1 := hr.cell (show i + 1 < N by omega)
                  have hgt : (0 : Int) < (i : Int) + 1 := by omega
                  have hwr2 : IntKind.i64.wrap ((i : Int) + 1 - 1) = (i : Int) := by rw [show (i : Int) + 1 - 1 = (i : Int) by omega]; exact IntWalk.i64_in _ (by omega)
                  have hin1 : (0 : Int) ≤ (i : Int) := by omega
                  have hin2 : (i : Int) < (N : Int) := by omega
                  have hin3 : (0 : Int) ≤ (i : Int) + 1 := by omega
                  have hin4 : (i : Int) + 1 < (N : Int) := by omega
                  have hin5 : ((i : Int) + 1).toNat = i + 1 := by omega
                  have HSS : Hid (shiftTo i (C.set (i + 1) (C.getD i 0)) = shiftTo p L) := HS
                  obtain ⟨y, hy⟩ : ∃ y, y = C.getD i 0 := ⟨_, rfl⟩
                  rw [← hy] at ci HSS
                  clear hr hb hy HS
                  go_wp2
                  go_roundw
                  case rel => exact ⟨i, _, by omega, by first | go_num | rfl, HSS, HRC.out.stored (i + 1) y, HBC.out.setCell (show w.heap.size ≤ g from hgl) _⟩
                  case measure => (simp [intOf]; try omega)
                · obtain rfl : j = 0 := by omega
                  have ca := AC2.out _ hb
                  have f0 := hr.frozen 0
                  have c0 := hr.cell (show 0 < N by omega)
                  have hgt : ¬ (0 : Int) < 0 := by omega
                  have hCE : C.set 0 x = mtf L x := by
                    have e : C = shiftTo p L := HS.out
                    rw [e]; exact HMT.out
                  have HCE := Lib.hid hCE
                  clear hr hb hCE
                  go_wp2
                  go_roundw
                  case rel =>
                    refine ⟨k + 1, c + ((p : Int) + 1), mtf L x, by omega, by go_num, by go_num, by omega, by omega, Lib.hid (by rw [← H.out, HST.out]), HFM, ?_, HBC.out.setCell (show w.heap.size ≤ g from hgl) _⟩
                    rw [← HCE.out]
                    exact HRC.out.stored 0 x
                  case measure => (simp [intOf]; try omega)
        · have hE : frontGo asks (upTo N) 0 = (c, L) := by rw [← H.out, drop_len _ _ (by omega), frontGo]
          have HE2 := Lib.hid hE
          clear hE
          go_wp2
          go_ret3
          exact ⟨_, by rw [HE.out, HE2.out]; rfl, by rw [HE.out, HE2.out]; exact HR.out.own (hi := wr.heap.size) (fun y hy => by have := HF.out.2.1 y hy; unfold I64; omega) (by omega) HR.out.lt (Nat.le_refl _), hb⟩
set_option maxHeartbeats 800000 in
set_option maxRecDepth 100000 in
theorem areAsks_any {l h : Nat} (v : Value) (zs : List Int) (w : World) (hv : Ints w l h v zs) (hz : zs.length ≤ 1048576) :
    Calls Try.prog 55 #[v] w fun e w' => e = .returned (.bool (inB 1 64 (zs.length : Int) && zs.all (inB 0 63))) ∧ w = w' := by
  have HV := Lib.hid hv
  obtain ⟨a, cap, rfl, hc1, hc2, hd⟩ := hv.out
  clear hv hd
  cases hA : inB 1 64 (zs.length : Int)
  · go_enter Try.func55, Try.ntmps55
    go_wp2_with fail
    refine (size_any _ (by omega) _).mono ?_
    rintro e w' ⟨rfl, rfl⟩
    go_wp2_with fail
    refine (within_any _ _ _ _).mono ?_
    rintro e w' ⟨rfl, rfl⟩
    rw [hA]
    go_wp2
    go_ret
    exact ⟨rfl, rfl⟩
  · go_enter Try.func55, Try.ntmps55
    go_wp2_with fail
    refine (size_any _ (by omega) _).mono ?_
    rintro e w' ⟨rfl, rfl⟩
    go_wp2_with fail
    refine (within_any _ _ _ _).mono ?_
    rintro e w' ⟨rfl, rfl⟩
    rw [hA]
    go_wp2_with fail
    refine (allWithin_any _ _ _ zs _ _ _ HV.out).mono ?_
    rintro e w' ⟨rfl, rfl⟩
    go_wp2
    go_ret
    exact ⟨ret_bool (by simp), rfl⟩
set_option maxHeartbeats 2000000 in
set_option maxRecDepth 100000 in
theorem implFrontCost_any (w : World) {l h : Nat} (v : Value) (asks : List Int) (n : Int) (hv : Ints w l h v asks) (hh : h ≤ w.heap.size) (hz : asks.length ≤ 1048576) (kn : I64 n) :
    Calls Try.prog 40 #[v, .int .i64 n] w fun e w' => ∃ r, e = .returned (.tuple #[.int .i64 (frontCost asks n).1, r, .bool (frontCost asks n).2.2]) ∧ OwnI w' w.heap.size w'.heap.size r (frontCost asks n).2.1 ∧ Below w.heap.size w w' := by
  have HV := Lib.hid hv
  obtain ⟨a, cap, rfl, hc1, hc2, hd⟩ := hv.out
  clear hv
  cases hA : (inB 1 64 (asks.length : Int) && asks.all (inB 0 63))
  · have hno : okFront asks n = false := by
      cases hq : okFront asks n
      · rfl
      · obtain ⟨b1, b2, b3, b4⟩ := okFront_out hq
        have e1 : inB 1 64 (asks.length : Int) = true := by simp [inB]; omega
        have e2 : asks.all (inB 0 63) = true := List.all_eq_true.2 fun x hx => by have := b2 x hx; simp [inB]; omega
        rw [e1, e2] at hA; cases hA
    have HE := Lib.hid (show frontCost asks n = (0, [], false) by simp [frontCost, hno])
    go_enter Try.func40, Try.ntmps40
    go_wp2_with fail
    refine (areAsks_any _ asks _ HV.out hz).mono ?_
    rintro e w' ⟨rfl, rfl⟩
    rw [hA]
    go_wp2
    go_ret3
    exact ⟨_, by rw [HE.out]; rfl, by rw [HE.out]; exact OwnI.nil _ _ _ (Nat.le_refl _), Below.refl _ _⟩
  cases hn : inB 1 64 n
  · have HE := Lib.hid (show frontCost asks n = (0, [], false) by simp [frontCost, okFront, hn])
    go_enter Try.func40, Try.ntmps40
    go_wp2_with fail
    refine (areAsks_any _ asks _ HV.out hz).mono ?_
    rintro e w' ⟨rfl, rfl⟩
    rw [hA]
    go_wp2_with fail
    refine (within_any _ _ _ _).mono ?_
    rintro e w' ⟨rfl, rfl⟩
    rw [hn]
    go_wp2
    go_ret3
    exact ⟨_, by rw [HE.out]; rfl, by rw [HE.out]; exact OwnI.nil _ _ _ (Nat.le_refl _), Below.refl _ _⟩
  have bn := inB_true hn
  cases hB : asks.all (inB 0 (n - 1))
  · have HE := Lib.hid (show frontCost asks n = (0, [], false) by simp only [frontCost, okFront, hB, Bool.false_and, Bool.and_false]; rfl)
    go_enter Try.func40, Try.ntmps40
    go_wp2_with fail
    refine (areAsks_any _ asks _ HV.out hz).mono ?_
    rintro e w' ⟨rfl, rfl⟩
    rw [hA]
    go_wp2_with fail
    refine (within_any _ _ _ _).mono ?_
    rintro e w' ⟨rfl, rfl⟩
    rw [hn]
    go_wp2_with fail
    refine (allWithin_any _ _ _ asks _ _ _ HV.out).mono ?_
    rintro e w' ⟨rfl, rfl⟩
    rw [hB]
    go_wp2
    go_ret3
    exact ⟨_, by rw [HE.out]; rfl, by rw [HE.out]; exact OwnI.nil _ _ _ (Nat.le_refl _), Below.refl _ _⟩
  have hok : okFront asks n = true := by
    rw [okFront, hn, hB]
    cases h1 : inB 1 64 (asks.length : Int)
    · rw [h1] at hA; cases hA
    · rfl
  obtain ⟨_, h2, h3, h4⟩ := okFront_out hok
  obtain ⟨N, rfl⟩ : ∃ N : Nat, n = (N : Int) := ⟨n.toNat, by omega⟩
  have HE := Lib.hid (show frontCost asks (N : Int) = ((frontGo asks (upTo N) 0).1, (frontGo asks (upTo N) 0).2, true) by simp [frontCost, hok])
  have HB := Lib.hid h2
  have hN1 : 1 ≤ N := by omega
  have hN2 : N ≤ 64 := by omega
  obtain ⟨M, hM⟩ : ∃ M, M + 1 = N := ⟨N - 1, by omega⟩
  have HM := Lib.hid hM
  clear hM
  rcases hd with hd | ⟨b, off, rfl, hb1, hb2, hb3, hcell⟩
  · rw [hd] at h3; simp at h3
  have AC : Hid (∀ (wx : World) (j : Nat), Below w.heap.size w wx → j < asks.length → wx.cell? ⟨b, off + j, none⟩ = some (.int .i64 (asks.getD j 0))) := fun wx j hbx hj => by
    rw [hbx.cell (p := ⟨b, off + j, none⟩) (show b < w.heap.size by omega)]; exact hcell j hj
  clear hcell h2 hok
  go_enter Try.func40, Try.ntmps40
  go_wp2_with fail
  refine (areAsks_any _ asks _ HV.out hz).mono ?_
  rintro e w' ⟨rfl, rfl⟩
  rw [hA]
  go_wp2_with fail
  refine (within_any _ _ _ _).mono ?_
  rintro e w' ⟨rfl, rfl⟩
  rw [hn]
  go_wp2_with fail
  refine (allWithin_any _ _ _ asks _ _ _ HV.out).mono ?_
  rintro e w' ⟨rfl, rfl⟩
  rw [hB]
  clear hn hA hB
  go_wp2_with fail
  go_loopw [7, 8] (fun ov i wr => ∃ q : Nat, q ≤ N ∧ i = .int .i64 q ∧ OwnI wr w.heap.size wr.heap.size ov (upTo q) ∧ Below w.heap.size w wr) (fun _ i _ => N - (intOf i).toNat)
  case atStart => exact ⟨0, Nat.zero_le _, rfl, OwnI.nil _ _ _ (Nat.le_refl _), Below.refl _ _⟩
  case round =>
    obtain ⟨q, hq, rfl, ho, hb⟩ := hrel
    have hs := hb.size
    have HO := Lib.hid ho
    have hol : (upTo q).length ≤ 64 := by rw [upTo_len]; omega
    clear ho
    by_cases hlt : q < N
    · have HS : Hid (upTo (q + 1) = upTo q ++ [(q : Int)]) := rfl
      go_wp2_with (at_builtin; refine wpList_app1 rfl _ _ rfl _ (upTo q) rfl (q : Int) _ HO.out rfl (by constructor <;> omega) (by omega) hs ?_)
      intro v2 w3 ho2 hsm hz3 _
      have HO2 : Hid (OwnI w3 w.heap.size w3.heap.size v2 (upTo (q + 1))) := by rw [Hid, HS.out]; exact ho2
      clear ho2
      go_wp2
      go_roundw
      case rel => exact ⟨q + 1, by omega, by go_num, HO2.out, hb.trans (hsm.below (Nat.le_refl _) hs)⟩
      case measure => simp [intOf]; omega
    · obtain rfl : N = q := by omega
      obtain ⟨w9, hw9⟩ : ∃ w9, w9 = wr := ⟨_, rfl⟩
      subst hw9
      have HBL := Lib.hid hb
      clear hb hol
      go_wp2_with fail
      go_loopw [7, 9, 39] (fun ov cv i wr => ∃ (k : Nat) (c : Int) (L : List Int), k ≤ asks.length ∧ i = .int .i64 k ∧ cv = .int .i64 c ∧ 0 ≤ c ∧ c ≤ 64 * (k : Int) ∧ Hid (frontGo (asks.drop k) L c = frontGo asks (upTo N) 0) ∧ Hid (Full N L) ∧ OwnI wr w.heap.size wr.heap.size ov L ∧ Below w.heap.size w wr) (fun _ _ i _ => asks.length - (intOf i).toNat)
      case atStart => exact ⟨0, 0, _, Nat.zero_le _, rfl, rfl, by omega, by omega, Lib.hid rfl, Lib.hid (upTo_full N), HO.out, HBL.out⟩
      case round =>
        clear HO HBL
        obtain ⟨k, c, L, hk, rfl, rfl, hc0, hck, H, HF, ho, hb⟩ := hrel
        have HO := Lib.hid ho
        by_cases hka : k < asks.length
        · have HD := Lib.hid (drop_cons asks k hka)
          have hx := HB.out asks[k] (List.getElem_mem _)
          have hac := AC.out wr k hb hka
          have hge : asks.getD k 0 = asks[k] := by simp [List.getD, hka]
          rw [hge] at hac
          obtain ⟨x, hxx⟩ : ∃ x, x = asks[k] := ⟨_, rfl⟩
          rw [← hxx] at hx hac HD
          have hm : x ∈ L := HF.out.2.2 x hx.1 hx.2
          obtain ⟨p1, p2, p3⟩ := posOf_spec hm
          have HFM := Lib.hid (HF.out.mtf hx.1 hx.2)
          have HST : Hid (frontGo (asks.drop k) L c = frontGo (asks.drop (k + 1)) (mtf L x) (c + ((posOf L x : Int) + 1))) := by rw [Hid, HD.out, frontGo]
          have hLl : L.length = N := HF.out.1
          have HMF : Hid (mtf L x = x :: (L.take (posOf L x) ++ L.drop (posOf L x + 1))) := rfl
          obtain ⟨p, hp⟩ : ∃ p, p = posOf L x := ⟨_, rfl⟩
          rw [← hp] at p1 p2 p3 HST HMF
          have hpN : p < N := by omega
          rcases ho.rowOf with ⟨_, e⟩ | ⟨g, gc, rfl, hg1, hg2, hg3, hrow⟩
          · rw [e] at hLl; simp at hLl; omega
          rw [hLl] at hrow hg2
          have hgl : w.heap.size ≤ g := hrow.ge
          have HIX := Lib.hid (slicesIndex_any g 0 N gc L x wr (by omega) (by omega) (fun j hj => by rw [Nat.zero_add]; exact hrow.cell (by omega)))
          rw [Lib.idxOf_hit L N p x hpN (by omega) p2 p3] at HIX
          have HDL := Lib.hid (slicesDelete_any p wr hrow hpN)
          rw [show N - 1 = M by have := HM.out; omega] at HDL
          obtain ⟨R, hR⟩ : ∃ R, R = L.take p ++ L.drop (p + 1) := ⟨_, rfl⟩
          rw [← hR] at HDL HMF
          have hRl : R.length = M := by have := HM.out; rw [hR]; simp; omega
          have HRI : Hid (∀ z ∈ R, I64 z) := fun z hz => by
            have hzL : z ∈ L := by
              rw [hR] at hz
              rcases List.mem_append.1 hz with hz | hz
              · exact List.mem_of_mem_take hz
              · exact List.mem_of_mem_drop hz
            have := HF.out.2.1 z hzL
            unfold I64; omega
          have HRL := Lib.hid hRl
          have hx1 := hx.1
          have hx2 := hx.2
          have HBB := Lib.hid hb
          have hsz := hb.size
          rw [hLl]
          clear hm hxx hge hp p2 p3 ho HO hb HD hR hRl hrow hx
          go_wp2_with fail
          refine HIX.out.mono ?_
          rintro e w' ⟨rfl, rfl⟩
          go_wp2_with fail
          refine HDL.out.mono ?_
          rintro e w5 ⟨rfl, hr5, hbel5⟩
          have hb5 := hbel5 _ _ hgl HBB.out
          have hs5 := hb5.size
          have hg5 : g < w5.heap.size := hr5.lt
          have hr6 : RowI (w5.alloc (.cells #[.int .i64 x] 2)) w.heap.size g (M + 1) gc (R ++ [0]) := by rw [HM.out]; exact hr5.alloc _
          have HINS := Lib.hid (slicesInsert_front (x := x) (vb := w5.heap.size) (w5.alloc (.cells #[.int .i64 x] 2)) hr6 HRL.out (heap_alloc_new w5 _) (by omega) (by unfold I64; omega) HRI.out (by have := HM.out; omega) (by simp; omega))
          have HB6 := Lib.hid (hb5.alloc hs5 (.cells #[.int .i64 x] 2))
          clear hr6 hr5 hbel5
          go_wp2_with fail
          refine HINS.out.mono ?_
          rintro e w7 ⟨u, rfl, ho7, hbel7⟩
          rw [← HMF.out] at ho7
          have HO7 := Lib.hid ho7
          have HB7 := Lib.hid (hbel7 _ _ (Nat.le_refl _) HB6.out)
          clear ho7 hbel7
          go_wp2
          go_roundw
          case rel => exact ⟨k + 1, c + ((p : Int) + 1), mtf L x, by omega, by go_num, by go_num, by omega, by omega, Lib.hid (by rw [← H.out, HST.out]), HFM, HO7.out, HB7.out⟩
          case measure => (simp [intOf]; try omega)
        · have hE : frontGo asks (upTo N) 0 = (c, L) := by rw [← H.out, drop_len _ _ (by omega), frontGo]
          have HE2 := Lib.hid hE
          clear hE
          go_wp2
          go_ret3
          exact ⟨_, by rw [HE.out, HE2.out]; rfl, by rw [HE.out, HE2.out]; exact HO.out, hb⟩
end Go.Proofs.Ytgbomnhidfejbaa
