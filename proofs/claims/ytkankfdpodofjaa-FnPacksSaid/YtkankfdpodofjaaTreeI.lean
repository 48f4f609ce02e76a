/-
  The least tree of cities: the program's contract.
-/
import Derived.Test.YtkankfdpodofjaaTreeP
import Derived.Test.YtkankfdpodofjaaApp2
import Derived.Test.YtkankfdpodofjaaCityI
namespace Go.Proofs.Ytkankfdpodofjaa
open Go.RowKit
set_option linter.unusedVariables false
set_option maxRecDepth 100000

theorem rowGo_yes {W : Int → Int → Int} {S : List Int} {i : Int} {m : Nat} {k : Int} {a b : Int} (h : hasI S k = false) (g : a < 0 ∨ W i k < W a b) : rowGo W S i (m + 1) k (a, b) = rowGo W S i m (k + 1) (i, k) := by rw [rowGo, if_pos ⟨h, g⟩]
theorem rowGo_no {W : Int → Int → Int} {S : List Int} {i : Int} {m : Nat} {k : Int} {a b : Int} (g : hasI S k = true ∨ ¬ (a < 0 ∨ W i k < W a b)) : rowGo W S i (m + 1) k (a, b) = rowGo W S i m (k + 1) (a, b) := by
  rw [rowGo, if_neg]
  rintro ⟨h1, h2⟩
  rcases g with g | g
  · rw [g] at h1; cases h1
  · exact g h2
/-- the way's contract, at all later worlds -/
def WayFn (F : FuncId) (cap : Array Value) (W : Int → Int → Int) (n : Nat) (w : World) : Prop :=
  ∀ wx, Below w.heap.size w wx → ∀ a b : Int, 0 ≤ a → a < n → 0 ≤ b → b < n → Calls Try.prog F (#[.int .i64 a, .int .i64 b] ++ cap) wx fun e w' => e = .returned (.int .i64 (W a b)) ∧ Drew wx w'
def WayRng (W : Int → Int → Int) (n : Nat) : Prop := ∀ a b : Int, 0 ≤ a → a < n → 0 ≤ b → b < n → -1000000 ≤ W a b ∧ W a b ≤ 1000000
set_option maxHeartbeats 2000000 in
set_option maxRecDepth 100000 in
theorem cityTree_any (F : FuncId) (hF : ∀ args wx, (callFunc F args).run Try.prog wx = .ok (.enter F args) wx) (cap : Array Value) (W : Int → Int → Int) (n f : Nat) (w : World) (hf : f < n) (hn : n ≤ 10) (hc : WayFn F cap W n w) (hr : WayRng W n) :
    Calls Try.prog 45 #[.int .i64 n, .int .i64 f, .func (.func F) #[] cap] w fun e w' => ∃ u, e = .returned (.tuple #[u, .int .i64 (treeOf W f (n - f)).2]) ∧ OwnI w' w.heap.size w'.heap.size u (treeOf W f (n - f)).1 ∧ Below w.heap.size w w' := by
  have HC := Lib.hid hc
  have HR := Lib.hid hr
  have H0 := Lib.hid (oneSliceW w (f : Int) (by unfold I64; omega))
  obtain ⟨N, hN⟩ : ∃ N, N = n - f := ⟨_, rfl⟩
  have HTR : Hid (treeOf W f (n - f) = treeGo W f N (N - 1) [(f : Int)] [] 0) := by rw [Hid, hN]; rfl
  have hN1 : 1 ≤ N := by omega
  have hNf : f + N = n := by omega
  have HNF := Lib.hid hNf
  have hnf2 : n ≤ N + f := by omega
  have hnf3 : N + f ≤ n := by omega
  clear hc hr hN hNf
  go_enter Try.func45, Try.ntmps45
  go_wp2_with fail
  go_loopw [8, 9, 10] (fun iv ev tv wr => ∃ (m : Nat) (S E : List Int) (t : Int), m + S.length = N ∧ 1 ≤ S.length ∧ tv = .int .i64 t ∧ -10000000 * (S.length : Int) ≤ t ∧ t ≤ 10000000 * (S.length : Int) ∧ E.length ≤ 2 * S.length ∧ Hid (treeGo W f N m S E t = treeOf W f (n - f)) ∧ Hid (OwnI wr w.heap.size wr.heap.size iv S) ∧ Hid (OwnI wr w.heap.size wr.heap.size ev E) ∧ Hid (∀ p, ev.ownBlock = some p → iv.ownBlock ≠ some p) ∧ Hid (Below w.heap.size w wr) ∧ Hid ((f : Int) ∈ S) ∧ lenV iv = S.length) (fun iv _ _ _ => N - lenV iv)
  case atStart =>
    refine ⟨N - 1, [(f : Int)], [], 0, by simp; omega, by simp, rfl, by simp, by simp, by simp, HTR.out.symm, ?_, ?_, ?_, ?_, by simp [Hid], rfl⟩
    · rw [Hid]; have := H0.out; simpa using this
    · exact OwnI.nil _ _ _ (Nat.le_refl _)
    · intro p hp; simp [Value.ownBlock] at hp
    · exact (Below.refl _ _).alloc (Nat.le_refl _) _
  case round =>
    clear H0 HTR
    obtain ⟨m, S, E, t, hmS, hS1, rfl, ht1, ht2, hEl, HG, HS, HE, HAP, HB, HFS, hlv⟩ := hrel
    have hsr := HB.out.size
    obtain ⟨sa, sc, rfl⟩ := HS.out.shape2
    obtain ⟨s, hs⟩ : ∃ s, s = S.length := ⟨_, rfl⟩
    have HSL := Lib.hid hs
    rw [← hs] at hmS hS1 ht1 ht2 hEl HAP ⊢
    have HS : Hid (OwnI wr w.heap.size wr.heap.size (.slice sa s sc) S) := by rw [HSL.out]; exact HS.out
    clear hs hlv
    by_cases hm0 : 0 < m
    · have hsN : (s : Int) < (n : Int) - (f : Int) := by omega
      obtain ⟨m', rfl⟩ : ∃ m', m = m' + 1 := ⟨m - 1, by omega⟩
      have HPK := Lib.hid (pick_ok W S f N (by omega) ⟨f, by omega, by omega, HFS.out⟩ (by have := HSL.out; omega))
      have HG2 : Hid (treeGo W f N m' (S ++ [(pick W S f N).2]) (E ++ [(pick W S f N).1, (pick W S f N).2]) (t + W (pick W S f N).1 (pick W S f N).2) = treeOf W f (n - f)) := by rw [Hid, ← HG.out, treeGo]
      obtain ⟨PA, hPA⟩ : ∃ p, p = (pick W S f N).1 := ⟨_, rfl⟩
      obtain ⟨PB, hPB⟩ : ∃ p, p = (pick W S f N).2 := ⟨_, rfl⟩
      have HPA : Hid (pick W S f N = (PA, PB)) := by rw [Hid, hPA, hPB]
      rw [← hPA, ← hPB] at HPK HG2
      clear hPA hPB HG
      obtain ⟨wo, hwo⟩ : ∃ wo : World, wo = wr := ⟨_, rfl⟩
      rw [← hwo] at HS HE HB hsr ⊢
      clear hwo
      go_wp2_with (refine (size_any _ (by omega) _).mono ?_; rintro e w' ⟨rfl, rfl⟩)
      go_loopw [11, 12, 13] (fun av bv iv wr => ∃ (i : Nat) (a b : Int), f ≤ i ∧ i ≤ n ∧ iv = .int .i64 i ∧ av = .int .i64 a ∧ bv = .int .i64 b ∧ Hid (pairGo W S f N (n - i) i (a, b) = (PA, PB)) ∧ Hid (EdgeOk S f N (a, b)) ∧ Hid (Drew wo wr)) (fun _ _ iv _ => n - (intOf iv).toNat)
      case atStart => exact ⟨f, -1, -1, Nat.le_refl _, by omega, rfl, rfl, rfl, by rw [Hid, ← HPA.out, pick]; congr 1; omega, .inl rfl, Drew.refl _⟩
      case round =>
        obtain ⟨i, a, b, hi1, hi2, rfl, rfl, rfl, HP, HEO, HD⟩ := hrel
        by_cases hin : i < n
        · have HHS := Lib.hid (has_any _ S (i : Int) wr (HS.out.rd.drew HD.out))
          have HP2 : Hid (pairGo W S f N (n - (i + 1)) ((i : Int) + 1) (if hasI S i then rowGo W S i N f (a, b) else (a, b)) = (PA, PB)) := by rw [Hid, ← HP.out, show n - i = (n - (i + 1)) + 1 by omega, pairGo]
          cases hhi : hasI S (i : Int)
          · rw [hhi] at HHS HP2
            clear hhi
            go_wp2_with fail
            refine HHS.out.mono ?_
            rintro e w' ⟨rfl, rfl⟩
            go_wp2
            go_roundw
            case rel => exact ⟨i + 1, a, b, by omega, by omega, by go_num, rfl, rfl, HP2.out, HEO, HD⟩
            case measure => (simp [intOf]; try omega)
          · rw [hhi] at HHS HP2
            have HIS := Lib.hid ((hasI_iff S i).1 hhi)
            obtain ⟨RES, hRES⟩ : ∃ r, r = rowGo W S i N f (a, b) := ⟨_, rfl⟩
            have HP3 : Hid (pairGo W S f N (n - (i + 1)) ((i : Int) + 1) RES = (PA, PB)) := by rw [Hid, hRES]; exact HP2.out
            have HRES := Lib.hid hRES
            obtain ⟨wp, hwp⟩ : ∃ wp : World, wp = wr := ⟨_, rfl⟩
            rw [← hwp] at HHS HD ⊢
            clear hhi HP HP2 hRES hwp
            go_wp2_with fail
            refine HHS.out.mono ?_
            rintro e w' ⟨rfl, rfl⟩
            go_wp2_with fail
            go_loopw [11, 12, 14] (fun av bv kv wr => ∃ (k : Nat) (a b : Int), f ≤ k ∧ k ≤ n ∧ kv = .int .i64 k ∧ av = .int .i64 a ∧ bv = .int .i64 b ∧ Hid (rowGo W S i (n - k) k (a, b) = RES) ∧ Hid (EdgeOk S f N (a, b)) ∧ Hid (Drew wo wr)) (fun _ _ kv _ => n - (intOf kv).toNat)
            case atStart => exact ⟨f, a, b, Nat.le_refl _, by omega, rfl, rfl, rfl, by rw [Hid, HRES.out]; congr 1; omega, HEO, HD⟩
            case round =>
              clear HRES HEO HD HHS
              obtain ⟨k, a, b, hk1, hk2, rfl, rfl, rfl, HRG, HEO, HD⟩ := hrel
              by_cases hkn : k < n
              · have HHK := Lib.hid (has_any _ S (k : Int) wr (HS.out.rd.drew HD.out))
                have hnk : n - k = (n - (k + 1)) + 1 := by omega
                have HKK : Hid (k < f + N) := by rw [Hid]; omega
                cases hhk : hasI S (k : Int)
                · rw [hhk] at HHK
                  have HKS := Lib.hid ((hasI_false S k).1 hhk)
                  have HEK : Hid (EdgeOk S f N ((i : Int), (k : Int))) := .inr ⟨HIS.out, by omega, by omega, HKS.out, by omega, by omega⟩
                  by_cases ha0 : a < 0
                  · have HN : Hid (rowGo W S i (n - (k + 1)) ((k : Int) + 1) ((i : Int), (k : Int)) = RES) := by rw [Hid, ← HRG.out, hnk, rowGo_yes hhk (.inl ha0)]
                    clear hhk hnk HRG
                    go_wp2_with fail
                    refine HHK.out.mono ?_
                    rintro e w' ⟨rfl, rfl⟩
                    go_wp2
                    go_roundw
                    case rel => exact ⟨k + 1, i, k, by omega, by omega, by go_num, rfl, rfl, HN, HEK, HD⟩
                    case measure => (simp [intOf]; try omega)
                  · have hea : (0 : Int) ≤ a ∧ a < n ∧ 0 ≤ b ∧ b < n := by
                      rcases HEO.out with h | ⟨_, h2, h3, _, h5, h6⟩
                      · exfalso
                        have := congrArg Prod.fst h
                        dsimp only at this; omega
                      · dsimp only at h2 h3 h5 h6; omega
                    obtain ⟨e1, e2, e3, e4⟩ := hea
                    have HW1 := Lib.hid (fun wx (hb : Below w.heap.size w wx) => HC.out wx hb (i : Int) (k : Int) (by omega) (by omega) (by omega) (by omega))
                    have HW2 := Lib.hid (fun wx (hb : Below w.heap.size w wx) => HC.out wx hb a b e1 e2 e3 e4)
                    have HBR := Lib.hid (HB.out.trans (HD.out.below _))
                    have HYES : Hid (W i k < W a b → rowGo W S i (n - (k + 1)) ((k : Int) + 1) ((i : Int), (k : Int)) = RES) := fun h => by rw [← HRG.out, hnk, rowGo_yes hhk (.inr h)]
                    have HNO : Hid (¬ W i k < W a b → rowGo W S i (n - (k + 1)) ((k : Int) + 1) (a, b) = RES) := fun h => by rw [← HRG.out, hnk, rowGo_no (.inr (by omega))]
                    obtain ⟨p, hp⟩ : ∃ p, p = W i k := ⟨_, rfl⟩
                    obtain ⟨q, hq⟩ : ∃ q, q = W a b := ⟨_, rfl⟩
                    rw [← hp] at HW1 HYES HNO
                    rw [← hq] at HW2 HYES HNO
                    clear hp hq hhk hnk HRG
                    by_cases hpq : p < q
                    · have HN := Lib.hid (HYES.out hpq)
                      go_wp2_with fail
                      refine HHK.out.mono ?_
                      rintro e w' ⟨rfl, rfl⟩
                      go_wp2_with fail
                      refine (HW1.out _ HBR.out).mono ?_
                      rintro e w3 ⟨rfl, hd3⟩
                      have HD3 := Lib.hid hd3
                      clear hd3
                      go_wp2_with fail
                      refine (HW2.out _ (HBR.out.trans (HD3.out.below _))).mono ?_
                      rintro e w4 ⟨rfl, hd4⟩
                      have HD4 := Lib.hid (HD.out.trans (HD3.out.trans hd4))
                      clear hd4
                      go_wp2
                      go_roundw
                      case rel => exact ⟨k + 1, i, k, by omega, by omega, by go_num, rfl, rfl, HN, HEK, HD4⟩
                      case measure => (simp [intOf]; try omega)
                    · have HN := Lib.hid (HNO.out hpq)
                      have hpqd : decide (p < q) = false := decide_eq_false hpq
                      go_wp2_with fail
                      refine HHK.out.mono ?_
                      rintro e w' ⟨rfl, rfl⟩
                      go_wp2_with fail
                      refine (HW1.out _ HBR.out).mono ?_
                      rintro e w3 ⟨rfl, hd3⟩
                      have HD3 := Lib.hid hd3
                      clear hd3
                      go_wp2_with fail
                      refine (HW2.out _ (HBR.out.trans (HD3.out.below _))).mono ?_
                      rintro e w4 ⟨rfl, hd4⟩
                      have HD4 := Lib.hid (HD.out.trans (HD3.out.trans hd4))
                      clear hd4
                      go_wp2
                      go_roundw
                      case rel => exact ⟨k + 1, a, b, by omega, by omega, by go_num, rfl, rfl, HN, HEO, HD4⟩
                      case measure => (simp [intOf]; try omega)
                · rw [hhk] at HHK
                  have HN : Hid (rowGo W S i (n - (k + 1)) ((k : Int) + 1) (a, b) = RES) := by rw [Hid, ← HRG.out, hnk, rowGo_no (.inl hhk)]
                  clear hhk hnk HRG
                  go_wp2_with fail
                  refine HHK.out.mono ?_
                  rintro e w' ⟨rfl, rfl⟩
                  go_wp2
                  go_roundw
                  case rel => exact ⟨k + 1, a, b, by omega, by omega, by go_num, rfl, rfl, HN, HEO, HD⟩
                  case measure => (simp [intOf]; try omega)
              · obtain rfl : k = n := by omega
                have HRE : Hid (RES = (a, b)) := by rw [Hid, ← HRG.out, Nat.sub_self, rowGo]
                go_wp2
                go_roundw
                case rel => exact ⟨i + 1, a, b, by omega, by omega, by go_num, rfl, rfl, by rw [Hid, ← HRE.out]; exact HP3.out, HEO, HD⟩
                case measure => (simp [intOf]; try omega)
        · obtain rfl : i = n := by omega
          have HAB : Hid ((a, b) = (PA, PB)) := by rw [Hid, ← HP.out, Nat.sub_self, pairGo]
          obtain rfl : a = PA := congrArg Prod.fst HAB.out
          obtain rfl : b = PB := congrArg Prod.snd HAB.out
          clear HAB HP HEO
          obtain ⟨hpa, hpa1, hpa2, hpb, hpb1, hpb2⟩ := HPK.out
          have ia1 : 0 ≤ a := by omega
          have ia2 : a < (i : Int) := by omega
          have ib1 : 0 ≤ b := by omega
          have ib2 : b < (i : Int) := by omega
          have hwr := HR.out a b ia1 ia2 ib1 ib2
          obtain ⟨x, hx⟩ : ∃ x, x = W a b := ⟨_, rfl⟩
          have HWX := Lib.hid (fun wx (hb : Below w.heap.size w wx) => HC.out wx hb a b ia1 ia2 ib1 ib2)
          rw [← hx] at HG2 hwr HWX
          have hw1 := hwr.1
          have hw2 := hwr.2
          have HSr := Lib.hid ((HS.out.drew HD.out).mono (Nat.le_refl _) (show wo.heap.size ≤ wr.heap.size by rw [HD.out.heap]; exact Nat.le_refl _) (Nat.le_refl _))
          have HEr := Lib.hid ((HE.out.drew HD.out).mono (Nat.le_refl _) (show wo.heap.size ≤ wr.heap.size by rw [HD.out.heap]; exact Nat.le_refl _) (Nat.le_refl _))
          have HBr := Lib.hid (HB.out.trans (HD.out.below _))
          have hsr2 := HBr.out.size
          have HI1 : Hid (I64 a) := by rw [Hid]; unfold I64; omega
          have HI2 : Hid (I64 b) := by rw [Hid]; unfold I64; omega
          obtain ⟨ea, ec, rfl⟩ := HEr.out.shape2
          clear hpa hpb hwr hx HS HE HD HB HPK
          go_wp2_with (at_builtin; refine wpList_app2K rfl _ _ rfl _ E rfl a b _ HEr.out rfl HI1.out HI2.out (by omega) hsr2 ?_)
          intro v3 w3 ho3 hk3 hsm3 hz3 hb3
          have HE3 := Lib.hid ho3
          have HB3 := Lib.hid (HBr.out.trans (hsm3.below (Nat.le_refl _) hsr2))
          have HS3 := Lib.hid (HSr.out.beside (u := .slice ea E.length ec) (by omega) (by omega) hk3 (fun p hp hq => HAP.out p hq hp))
          have HAP3 : Hid (∀ p, v3.ownBlock = some p → (Value.slice sa s sc).ownBlock ≠ some p) := by
            have := apart_grow (w := wr) (v := .slice ea E.length ec) (v' := v3) (u := .slice sa s sc) (B := wr.heap.size) (fun p hp hq => HAP.out p hq hp) (fun p hp => HSr.out.own.blk p hp) hb3
            exact fun p hp hq => this p hq hp
          have hsz3 : wr.heap.size + 1 ≤ w3.heap.size := hz3
          clear ho3 hk3 hsm3 hz3 hb3
          go_wp2_with fail
          refine (HWX.out w3 HB3.out).mono ?_
          rintro e w4 ⟨rfl, hd4⟩
          have HD4 := Lib.hid hd4
          have hh4 : w3.heap.size ≤ w4.heap.size := by rw [HD4.out.heap]; exact Nat.le_refl _
          have HS4 := Lib.hid ((HS3.out.drew HD4.out).mono (Nat.le_refl _) hh4 (Nat.le_refl _))
          have HE4 := Lib.hid ((HE3.out.drew HD4.out).mono (Nat.le_refl _) hh4 (Nat.le_refl _))
          have HB4 := Lib.hid (HB3.out.trans (HD4.out.below _))
          have hs4 := HB4.out.size
          obtain ⟨ea3, ec3, rfl⟩ := HE3.out.shape2
          clear hd4
          go_wp2_with (at_builtin; refine wpList_app1K rfl _ _ rfl _ S rfl b _ HS4.out rfl HI2.out (by have := HSL.out; omega) hs4 ?_)
          intro v5 w5 ho5 hk5 hsm5 hz5 hb5
          have HS5 := Lib.hid ho5
          have HB5 := Lib.hid (HB4.out.trans (hsm5.below (Nat.le_refl _) hs4))
          have HE5 := Lib.hid (HE4.out.beside (u := .slice sa s sc) (by omega) (by omega) hk5 HAP3.out)
          have HAP5 : Hid (∀ p, (Value.slice ea3 (E ++ [a, b]).length ec3).ownBlock = some p → v5.ownBlock ≠ some p) :=
            apart_grow (w := w4) (v := .slice sa s sc) (v' := v5) (u := .slice ea3 (E ++ [a, b]).length ec3) (B := w4.heap.size) HAP3.out (fun p hp => HE4.out.own.blk p hp) hb5
          obtain ⟨sa5, sc5, e5⟩ := HS5.out.shape2
          have hlv5 : lenV v5 = s + 1 := by rw [e5, lenV, List.length_append, ← HSL.out]; rfl
          have HLE : Hid ((E ++ [a, b]).length = E.length + 2) := by simp [Hid]
          have HE6 : Hid (OwnI w5 w.heap.size w5.heap.size (.slice ea3 (E.length + 2) ec3) (E ++ [a, b])) := by have := HE5.out; rw [HLE.out] at this; exact this
          have HAP6 : Hid (∀ p, (Value.slice ea3 (E.length + 2) ec3).ownBlock = some p → v5.ownBlock ≠ some p) := by have := HAP5.out; rw [HLE.out] at this; exact this
          have HLS : Hid ((S ++ [b]).length = s + 1) := by rw [Hid, List.length_append, ← HSL.out]; rfl
          clear ho5 hk5 hsm5 hz5 hb5 e5 hsr hsr2 hs4 hh4 hsz3 HEr HSr HBr HAP HS3 HB3 HAP3 HS4 HE3 HE4 HD4 HB4 HS HE5 HAP5
          go_wp2
          go_roundw
          case rel => exact ⟨m', S ++ [b], E ++ [a, b], t + x, by rw [HLS.out]; omega, by rw [HLS.out]; omega, rfl, by rw [HLS.out]; omega, by rw [HLS.out]; omega, by rw [HLS.out, HLE.out]; omega, HG2, HS5, HE6, HAP6, HB5, by rw [Hid, List.mem_append]; exact .inl HFS.out, by rw [HLS.out]; exact hlv5⟩
          case measure => (rw [hlv5]; show N - (s + 1) < N - s; omega)
    · obtain rfl : m = 0 := by omega
      have hsN : ¬ (s : Int) < (n : Int) - (f : Int) := by omega
      have HRS : Hid (treeOf W f (n - f) = (E, t)) := by rw [Hid, ← HG.out, treeGo]
      go_wp2_with (refine (size_any _ (by omega) _).mono ?_; rintro e w' ⟨rfl, rfl⟩)
      go_ret2
      exact ⟨_, by rw [HRS.out]; rfl, by rw [HRS.out]; exact HE.out, HB.out⟩
end Go.Proofs.Ytkankfdpodofjaa
