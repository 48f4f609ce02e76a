/-
  The library's stable sort at a []int64 of at most 64 elements 0, 1, ..: contract.
-/
import Derived.Test.YtkankfdpodofjaaInsB
namespace Go.Proofs.Ytkankfdpodofjaa
open Go.RowKit
set_option linter.unusedVariables false
set_option maxRecDepth 100000

/-- a block in order that holds its own numbers -/
structure Blk (key : Int → Int) (R : List Int) (a b : Nat) : Prop where
  so : SortR key R a b
  rg : ∀ q, a ≤ q → q < b → (a : Int) ≤ at0 R q ∧ at0 R q < (b : Int)
theorem Blk.cross {key : Int → Int} {R : List Int} {a m b : Nat} (h : Blk key R a m) (g : Blk key R m b) : Cross R a m b := fun p q p1 p2 q1 q2 => by
  have := h.rg p p1 p2
  have := g.rg q q1 q2
  omega
theorem blk_of {key : Int → Int} {N a b : Nat} {R T : List Int} (h : Seg N R T a b) (hr : ∀ q, a ≤ q → q < b → (a : Int) ≤ at0 R q ∧ at0 R q < (b : Int)) (hs : SortR key T a b) : Blk key T a b := ⟨hs, fun q q1 q2 => by
  obtain ⟨p, p1, p2, p3⟩ := h.src q q1 q2
  rw [p3]; exact hr p p1 p2⟩
theorem Blk.keep {key : Int → Int} {N a b c d : Nat} {R T : List Int} (g : Blk key R c d) (h : Seg N R T a b) (hd : d ≤ a ∨ b ≤ c) (hN : d ≤ N) : Blk key T c d :=
  ⟨h.sub g.so (hd.imp id id) hN, fun q q1 q2 => by rw [h.out q (by omega) (by omega)]; exact g.rg q q1 q2⟩
theorem Blk.two {key : Int → Int} {R : List Int} {a m b : Nat} (h : Blk key R a m) (g : Blk key R m b) (h1 : a ≤ m) (h2 : m ≤ b) : ∀ q, a ≤ q → q < b → (a : Int) ≤ at0 R q ∧ at0 R q < (b : Int) := fun q q1 q2 => by
  by_cases hq : q < m
  · have := h.rg q q1 hq; omega
  · have := g.rg q (by omega) q2; omega
def Lvl (key : Int → Int) (R : List Int) (n S : Nat) : Prop := ∀ u, u * S < n → Blk key R (u * S) (min (u * S + S) n)
set_option maxHeartbeats 8000000 in
set_option maxRecDepth 100000 in
theorem stable64_any (F : FuncId) (hF : ∀ args wx, (callFunc F args).run Try.prog wx = .ok (.enter F args) wx) (cap : Array Value) (cf : Int → Int → Int) (key : Int → Int) (hkey : ∀ x y, decide (cf x y < 0) = decide (key x < key y)) {lo g cp n : Nat} (hn : n ≤ 64) (A : List Int) (w : World) (hrow : RowI w lo g n cp A) (hA : ∀ q : Nat, q < n → at0 A q = (q : Int)) (hcmp : CmpOk F cap cf g n w) :
    Calls Try.prog 107 #[.slice (some ⟨g, 0, none⟩) n cp, .int .i64 n, .func (.func F) #[] cap] w (SymPost lo g cp n key A 0 n w) := by
  have HINS := Lib.hid (fun (R : List Int) (wx : World) (a b : Nat) (hr : RowI wx lo g n cp R) (hi : IdxR R n) (hs : Same g (g + 1) w wx) (h1 : a ≤ b) (h2 : b ≤ n) (hc : ∀ p q, a ≤ p → p < q → q < b → at0 R p < at0 R q) => insBlock_any F hF cap cf key hkey (show n ≤ 1000 by omega) R wx a b hr hi h1 h2 (hcmp.same hs) hc)
  have HSYM := Lib.hid (fun (R : List Int) (wx : World) (a m b : Nat) (hr : RowI wx lo g n cp R) (hi : IdxR R n) (hs : Same g (g + 1) w wx) (h1 : a < m) (h2 : m < b) (h3 : b ≤ n) (hl : Blk key R a m) (hg : Blk key R m b) => symMerge_any F hF cap cf key hkey (show n ≤ 1000 by omega) b R wx a m b hr hi h1 h2 h3 (by omega) (hcmp.same hs) hl.so hg.so (hl.cross hg))
  have HROW := Lib.hid hrow
  have HA := Lib.hid hA
  have HAI : Hid (IdxR A n) := fun q hq => by rw [hA q hq]; omega
  clear hkey hrow hA hcmp
  go_enter Try.func107, Try.ntmps107
  go_wp2_with fail
  go_loopw [7, 8] (fun av bv wr => ∃ (t : Nat) (R : List Int), Hid (20 * t ≤ n) ∧ av = .int .i64 ((20 * t : Nat)) ∧ bv = .int .i64 ((20 * t + 20 : Nat)) ∧ Hid (RowI wr lo g n cp R) ∧ Hid (Seg n A R 0 n) ∧ Hid (∀ q, 20 * t ≤ q → q < n → at0 R q = (q : Int)) ∧ Hid (∀ u, u < t → Blk key R (u * 20) (u * 20 + 20)) ∧ Hid (Same g (g + 1) w wr)) (fun av _ _ => n - (intOf av).toNat)
  case atStart => exact ⟨0, A, by rw [Hid]; omega, rfl, rfl, HROW, Seg.refl _ _ _ _, fun q _ hq => HA.out q hq, fun u hu => by omega, Same.refl _ _ _⟩
  case round =>
    obtain ⟨t, R, ht, rfl, rfl, HR, HSG, HID, HBK, HS⟩ := hrel
    have hIX := HSG.out.idx (Nat.le_refl _) HAI.out
    have ht' := ht.out
    obtain ⟨a, ha⟩ : ∃ a, a = 20 * t := ⟨_, rfl⟩
    rw [← ha]
    have hInc : ∀ b', b' ≤ n → ∀ p q, a ≤ p → p < q → q < b' → at0 R p < at0 R q := fun b' hb' p q p1 p2 p3 => by rw [HID.out p (by omega) (by omega), HID.out q (by omega) (by omega)]; omega
    have hRg : ∀ b', b' ≤ n → ∀ q, a ≤ q → q < b' → (a : Int) ≤ at0 R q ∧ at0 R q < (b' : Int) := fun b' hb' q q1 q2 => by rw [HID.out q (by omega) (by omega)]; omega
    have w20 : IntKind.i64.wrap (((a + 20 : Nat) : Int) + 20) = ((a + 40 : Nat) : Int) := by rw [show ((a + 20 : Nat) : Int) + 20 = ((a + 40 : Nat) : Int) by omega]; exact IntWalk.i64_in _ (by omega)
    by_cases hb : a + 20 ≤ n
    · have hbI : ((a + 20 : Nat) : Int) ≤ (n : Int) := by omega
      have HI := Lib.hid (HINS.out R _ a (a + 20) HR.out hIX HS.out (by omega) hb (hInc _ hb))
      have HRG := Lib.hid (hRg _ hb)
      have HTA := Lib.hid ha
      obtain ⟨b, hbb⟩ : ∃ b, b = a + 20 := ⟨_, rfl⟩
      rw [← hbb] at hbI HI HRG w20
      rw [← hbb]
      have HBB := Lib.hid hbb
      have hbl : (b : Int) + 20 = ((a + 40 : Nat) : Int) := by omega
      clear hInc hRg hIX ha ht ht' hbb hb
      go_wp2_with fail
      refine HI.out.mono ?_
      rintro e w2 ⟨rfl, T, hT, hseg, hso, hsm⟩
      have HT := Lib.hid hT
      have HT2 := Lib.hid hseg
      have HT3 := Lib.hid hso
      have HS2 := Lib.hid (HS.out.trans hsm)
      clear hT hseg hso hsm
      go_wp2
      go_roundw
      case rel =>
        have e1 := HTA.out
        have e2 := HBB.out
        refine ⟨t + 1, T, by rw [Hid]; omega, by congr 1; omega, by congr 1; omega, HT, HSG.out.trans (HT2.out.widen (Nat.zero_le _) (by omega) (Nat.le_refl _)), fun q q1 q2 => ?_, fun u hu => ?_, HS2⟩
        · rw [HT2.out.out q q2 (by omega)]; exact HID.out q (by omega) q2
        · by_cases hut : u < t
          · exact (HBK.out u hut).keep HT2.out (.inl (by omega)) (by omega)
          · have : u = t := by omega
            subst this
            have := blk_of HT2.out HRG.out HT3.out
            rw [show a = u * 20 by omega, show b = u * 20 + 20 by omega] at this
            exact this
      case measure =>
        have e1 := HTA.out
        have e2 := HBB.out
        simp [intOf]; omega
    · have hbI : ¬ ((a + 20 : Nat) : Int) ≤ (n : Int) := by omega
      have HI := Lib.hid (HINS.out R _ a n HR.out hIX HS.out (by omega) (Nat.le_refl _) (hInc _ (Nat.le_refl _)))
      have HRG := Lib.hid (hRg _ (Nat.le_refl _))
      have HTA := Lib.hid ha
      have hab20 : n < a + 20 := by omega
      have HT0 := ht
      clear hInc hRg hIX ha ht ht' hb
      obtain ⟨b, hbb⟩ : ∃ b, b = a + 20 := ⟨_, rfl⟩
      rw [← hbb] at hbI
      rw [← hbb]
      clear hbb w20
      go_wp2_with fail
      refine HI.out.mono ?_
      rintro e w2 ⟨rfl, T, hT, hseg, hso, hsm⟩
      have HT := Lib.hid hT
      have HSG2 := Lib.hid (HSG.out.trans (hseg.widen (Nat.zero_le _) (Nat.le_refl _) (Nat.le_refl _)))
      have HS2 := Lib.hid (HS.out.trans hsm)
      have HLV : Hid (Lvl key T n 20) := fun u hu => by
        have e1 := HTA.out
        have e0 := HT0.out
        by_cases hut : u < t
        · rw [Nat.min_eq_left (by omega)]
          exact (HBK.out u hut).keep hseg (.inl (by omega)) (by omega)
        · have h1 : u * 20 = a := by omega
          rw [h1, Nat.min_eq_right (by omega)]
          exact blk_of hseg HRG.out hso
      clear hT hseg hso hsm HI HRG HTA HBK HID HSG HR HS hab20
      go_wp2_with fail
      go_loopw [6] (fun sv wr => ∃ (S : Nat) (R : List Int), Hid (S = 20 ∨ S = 40 ∨ S = 80) ∧ sv = .int .i64 S ∧ Hid (RowI wr lo g n cp R) ∧ Hid (Seg n A R 0 n) ∧ Hid (Lvl key R n S) ∧ Hid (Same g (g + 1) w wr)) (fun sv _ => n - (intOf sv).toNat)
      case atStart => exact ⟨20, T, .inl rfl, rfl, HT, HSG2, HLV, HS2⟩
      case round =>
        clear HT HSG2 HLV HS2
        obtain ⟨S, R, hS, rfl, HR, HSG, HLV, HS⟩ := hrel
        by_cases hSn : S < n
        · rcases hS with rfl | rfl | rfl
          · have hSI : (20 : Int) < (n : Int) := by omega
            obtain ⟨wo, hwo⟩ : ∃ X : World, X = wr := ⟨_, rfl⟩
            rw [← hwo] at HR HS
            rw [← hwo]
            clear hwo
            rw [show (((20 : Nat)) : Int) = 20 from rfl]
            go_wp2_with fail
            go_loopw [7, 8] (fun av bv wr => ∃ (t : Nat) (R : List Int), Hid (40 * t ≤ n) ∧ av = .int .i64 ((40 * t : Nat)) ∧ bv = .int .i64 ((40 * t + 40 : Nat)) ∧ Hid (RowI wr lo g n cp R) ∧ Hid (Seg n A R 0 n) ∧ Hid (∀ u, u < t → Blk key R (u * 40) (u * 40 + 40)) ∧ Hid (∀ u, 40 * t ≤ u * 20 → u * 20 < n → Blk key R (u * 20) (min (u * 20 + 20) n)) ∧ Hid (Same g (g + 1) w wr)) (fun av _ _ => n - (intOf av).toNat)
            case atStart => exact ⟨0, R, by rw [Hid]; omega, rfl, rfl, HR, HSG, fun u hu => by omega, fun u _ hu => HLV.out u hu, HS⟩
            case round =>
              clear HR HSG HLV HS
              obtain ⟨t, R, ht, rfl, rfl, HR, HSG, HB1, HB2, HS⟩ := hrel
              have ht' := ht.out
              have hIX := HSG.out.idx (Nat.le_refl _) HAI.out
              obtain ⟨a, ha⟩ : ∃ a, a = 40 * t := ⟨_, rfl⟩
              have HTA := Lib.hid ha
              rw [← ha]
              have w1 : IntKind.i64.wrap ((a : Int) + 20) = (a : Int) + 20 := IntWalk.i64_in _ (by omega)
              by_cases hb : a + 40 ≤ n
              · have hbI : ((a + 40 : Nat) : Int) ≤ (n : Int) := by omega
                have hl : Blk key R a (a + 20) := by
                  have := HB2.out (2 * t) (by omega) (by omega)
                  rw [show 2 * t * 20 = a by omega, Nat.min_eq_left (by omega)] at this
                  exact this
                have hg : Blk key R (a + 20) (a + 40) := by
                  have := HB2.out (2 * t + 1) (by omega) (by omega)
                  rw [show (2 * t + 1) * 20 = a + 20 by omega, Nat.min_eq_left (by omega), show a + 20 + 20 = a + 40 by omega] at this
                  exact this
                have HI := Lib.hid (HSYM.out R _ a (a + 20) (a + 40) HR.out hIX HS.out (by omega) (by omega) hb hl hg)
                have HTW := Lib.hid (hl.two hg (by omega) (by omega))
                obtain ⟨b, hbb⟩ : ∃ b, b = a + 40 := ⟨_, rfl⟩
                rw [← hbb] at hbI HI HTW
                rw [← hbb]
                have HBB := Lib.hid hbb
                have w2 : IntKind.i64.wrap ((b : Int) + 40) = (b : Int) + 40 := IntWalk.i64_in _ (by omega)
                clear hl hg hIX ha ht ht' hbb hb
                go_wp2_with fail
                refine HI.out.mono ?_
                rintro e w3 ⟨rfl, T, hT, hseg, hso, hsm⟩
                have HT := Lib.hid hT
                have HT2 := Lib.hid hseg
                have HT3 := Lib.hid hso
                have HS2 := Lib.hid (HS.out.trans hsm)
                clear hT hseg hso hsm
                go_wp2
                go_roundw
                case rel =>
                  have e1 := HTA.out
                  have e2 := HBB.out
                  refine ⟨t + 1, T, by rw [Hid]; omega, by congr 1; omega, by congr 1; omega, HT, HSG.out.trans (HT2.out.widen (Nat.zero_le _) (by omega) (Nat.le_refl _)), fun u hu => ?_, fun u u1 u2 => ?_, HS2⟩
                  · by_cases hut : u < t
                    · exact (HB1.out u hut).keep HT2.out (.inl (by omega)) (by omega)
                    · have : u = t := by omega
                      subst this
                      have := blk_of HT2.out HTW.out HT3.out
                      rw [show a = u * 40 by omega, show b = u * 40 + 40 by omega] at this
                      exact this
                  · exact (HB2.out u (by omega) u2).keep HT2.out (.inr (by omega)) (by omega)
                case measure =>
                  have e1 := HTA.out
                  have e2 := HBB.out
                  simp [intOf]; omega
              · have hbI : ¬ ((a + 40 : Nat) : Int) ≤ (n : Int) := by omega
                have w3 : IntKind.i64.wrap ((20 : Int) * 2) = 40 := by decide
                obtain ⟨b, hbb⟩ : ∃ b, b = a + 40 := ⟨_, rfl⟩
                have HBB := Lib.hid hbb
                rw [← hbb] at hbI
                rw [← hbb]
                clear hbb
                by_cases hm : a + 20 < n
                · have hmI : (a : Int) + 20 < (n : Int) := by omega
                  have hl : Blk key R a (a + 20) := by
                    have := HB2.out (2 * t) (by omega) (by omega)
                    rw [show 2 * t * 20 = a by omega, Nat.min_eq_left (by omega)] at this
                    exact this
                  have hg : Blk key R (a + 20) n := by
                    have := HB2.out (2 * t + 1) (by omega) (by omega)
                    rw [show (2 * t + 1) * 20 = a + 20 by omega, Nat.min_eq_right (by omega)] at this
                    exact this
                  have HI := Lib.hid (HSYM.out R _ a (a + 20) n HR.out hIX HS.out (by omega) hm (Nat.le_refl _) hl hg)
                  have HTW := Lib.hid (hl.two hg (by omega) (by omega))
                  obtain ⟨m, hmm⟩ : ∃ m, m = a + 20 := ⟨_, rfl⟩
                  have hmc : (a : Int) + 20 = (m : Int) := by omega
                  rw [hmc] at hmI w1
                  rw [← hmm] at HI
                  clear hl hg hIX ha ht ht' hm hb hmm
                  go_wp2_with fail
                  refine HI.out.mono ?_
                  rintro e w4 ⟨rfl, T, hT, hseg, hso, hsm⟩
                  have HT := Lib.hid hT
                  have HT2 := Lib.hid hseg
                  have HT3 := Lib.hid hso
                  have HS2 := Lib.hid (HS.out.trans hsm)
                  clear hT hseg hso hsm
                  go_wp2
                  go_roundw
                  case rel =>
                    have e1 := HTA.out
                    have e2 := HBB.out
                    refine ⟨40, T, by rw [Hid]; omega, rfl, HT, HSG.out.trans (HT2.out.widen (Nat.zero_le _) (by omega) (Nat.le_refl _)), fun u hu => ?_, HS2⟩
                    by_cases hut : u < t
                    · rw [Nat.min_eq_left (by omega)]
                      exact (HB1.out u hut).keep HT2.out (.inl (by omega)) (by omega)
                    · have h1 : u * 40 = a := by omega
                      rw [h1, Nat.min_eq_right (by omega)]
                      exact blk_of HT2.out HTW.out HT3.out
                  case measure =>
                    simp [intOf]; omega
                · have hmI : ¬ (a : Int) + 20 < (n : Int) := by omega
                  clear hIX ha ht' hb
                  go_wp2_with fail
                  go_roundw
                  case rel =>
                    have e1 := HTA.out
                    have e0 := ht.out
                    have e2 := HBB.out
                    refine ⟨40, R, by rw [Hid]; omega, rfl, HR, HSG, fun u hu => ?_, HS⟩
                    by_cases hut : u < t
                    · rw [Nat.min_eq_left (by omega)]
                      exact HB1.out u hut
                    · have h1 : u * 40 = a := by omega
                      have := HB2.out (2 * u) (by omega) (by omega)
                      rw [show 2 * u * 20 = a by omega, Nat.min_eq_right (by omega)] at this
                      rw [h1, Nat.min_eq_right (by omega)]
                      exact this
                  case measure =>
                    simp [intOf]; omega
          · have hSI : (40 : Int) < (n : Int) := by omega
            obtain ⟨wo, hwo⟩ : ∃ X : World, X = wr := ⟨_, rfl⟩
            rw [← hwo] at HR HS
            rw [← hwo]
            clear hwo
            rw [show (((40 : Nat)) : Int) = 40 from rfl]
            go_wp2_with fail
            go_loopw [7, 8] (fun av bv wr => ∃ (t : Nat) (R : List Int), Hid (80 * t ≤ n) ∧ av = .int .i64 ((80 * t : Nat)) ∧ bv = .int .i64 ((80 * t + 80 : Nat)) ∧ Hid (RowI wr lo g n cp R) ∧ Hid (Seg n A R 0 n) ∧ Hid (∀ u, u < t → Blk key R (u * 80) (u * 80 + 80)) ∧ Hid (∀ u, 80 * t ≤ u * 40 → u * 40 < n → Blk key R (u * 40) (min (u * 40 + 40) n)) ∧ Hid (Same g (g + 1) w wr)) (fun av _ _ => n - (intOf av).toNat)
            case atStart => exact ⟨0, R, by rw [Hid]; omega, rfl, rfl, HR, HSG, fun u hu => by omega, fun u _ hu => HLV.out u hu, HS⟩
            case round =>
              clear HR HSG HLV HS
              obtain ⟨t, R, ht, rfl, rfl, HR, HSG, HB1, HB2, HS⟩ := hrel
              have ht' := ht.out
              have hIX := HSG.out.idx (Nat.le_refl _) HAI.out
              obtain ⟨a, ha⟩ : ∃ a, a = 80 * t := ⟨_, rfl⟩
              have HTA := Lib.hid ha
              rw [← ha]
              have w1 : IntKind.i64.wrap ((a : Int) + 40) = (a : Int) + 40 := IntWalk.i64_in _ (by omega)
              by_cases hb : a + 80 ≤ n
              · have hbI : ((a + 80 : Nat) : Int) ≤ (n : Int) := by omega
                have hl : Blk key R a (a + 40) := by
                  have := HB2.out (2 * t) (by omega) (by omega)
                  rw [show 2 * t * 40 = a by omega, Nat.min_eq_left (by omega)] at this
                  exact this
                have hg : Blk key R (a + 40) (a + 80) := by
                  have := HB2.out (2 * t + 1) (by omega) (by omega)
                  rw [show (2 * t + 1) * 40 = a + 40 by omega, Nat.min_eq_left (by omega), show a + 40 + 40 = a + 80 by omega] at this
                  exact this
                have HI := Lib.hid (HSYM.out R _ a (a + 40) (a + 80) HR.out hIX HS.out (by omega) (by omega) hb hl hg)
                have HTW := Lib.hid (hl.two hg (by omega) (by omega))
                obtain ⟨b, hbb⟩ : ∃ b, b = a + 80 := ⟨_, rfl⟩
                rw [← hbb] at hbI HI HTW
                rw [← hbb]
                have HBB := Lib.hid hbb
                have w2 : IntKind.i64.wrap ((b : Int) + 80) = (b : Int) + 80 := IntWalk.i64_in _ (by omega)
                clear hl hg hIX ha ht ht' hbb hb
                go_wp2_with fail
                refine HI.out.mono ?_
                rintro e w3 ⟨rfl, T, hT, hseg, hso, hsm⟩
                have HT := Lib.hid hT
                have HT2 := Lib.hid hseg
                have HT3 := Lib.hid hso
                have HS2 := Lib.hid (HS.out.trans hsm)
                clear hT hseg hso hsm
                go_wp2
                go_roundw
                case rel =>
                  have e1 := HTA.out
                  have e2 := HBB.out
                  refine ⟨t + 1, T, by rw [Hid]; omega, by congr 1; omega, by congr 1; omega, HT, HSG.out.trans (HT2.out.widen (Nat.zero_le _) (by omega) (Nat.le_refl _)), fun u hu => ?_, fun u u1 u2 => ?_, HS2⟩
                  · by_cases hut : u < t
                    · exact (HB1.out u hut).keep HT2.out (.inl (by omega)) (by omega)
                    · have : u = t := by omega
                      subst this
                      have := blk_of HT2.out HTW.out HT3.out
                      rw [show a = u * 80 by omega, show b = u * 80 + 80 by omega] at this
                      exact this
                  · exact (HB2.out u (by omega) u2).keep HT2.out (.inr (by omega)) (by omega)
                case measure =>
                  have e1 := HTA.out
                  have e2 := HBB.out
                  simp [intOf]; omega
              · have hbI : ¬ ((a + 80 : Nat) : Int) ≤ (n : Int) := by omega
                have w3 : IntKind.i64.wrap ((40 : Int) * 2) = 80 := by decide
                obtain ⟨b, hbb⟩ : ∃ b, b = a + 80 := ⟨_, rfl⟩
                have HBB := Lib.hid hbb
                rw [← hbb] at hbI
                rw [← hbb]
                clear hbb
                by_cases hm : a + 40 < n
                · have hmI : (a : Int) + 40 < (n : Int) := by omega
                  have hl : Blk key R a (a + 40) := by
                    have := HB2.out (2 * t) (by omega) (by omega)
                    rw [show 2 * t * 40 = a by omega, Nat.min_eq_left (by omega)] at this
                    exact this
                  have hg : Blk key R (a + 40) n := by
                    have := HB2.out (2 * t + 1) (by omega) (by omega)
                    rw [show (2 * t + 1) * 40 = a + 40 by omega, Nat.min_eq_right (by omega)] at this
                    exact this
                  have HI := Lib.hid (HSYM.out R _ a (a + 40) n HR.out hIX HS.out (by omega) hm (Nat.le_refl _) hl hg)
                  have HTW := Lib.hid (hl.two hg (by omega) (by omega))
                  obtain ⟨m, hmm⟩ : ∃ m, m = a + 40 := ⟨_, rfl⟩
                  have hmc : (a : Int) + 40 = (m : Int) := by omega
                  rw [hmc] at hmI w1
                  rw [← hmm] at HI
                  clear hl hg hIX ha ht ht' hm hb hmm
                  go_wp2_with fail
                  refine HI.out.mono ?_
                  rintro e w4 ⟨rfl, T, hT, hseg, hso, hsm⟩
                  have HT := Lib.hid hT
                  have HT2 := Lib.hid hseg
                  have HT3 := Lib.hid hso
                  have HS2 := Lib.hid (HS.out.trans hsm)
                  clear hT hseg hso hsm
                  go_wp2
                  go_roundw
                  case rel =>
                    have e1 := HTA.out
                    have e2 := HBB.out
                    refine ⟨80, T, by rw [Hid]; omega, rfl, HT, HSG.out.trans (HT2.out.widen (Nat.zero_le _) (by omega) (Nat.le_refl _)), fun u hu => ?_, HS2⟩
                    by_cases hut : u < t
                    · rw [Nat.min_eq_left (by omega)]
                      exact (HB1.out u hut).keep HT2.out (.inl (by omega)) (by omega)
                    · have h1 : u * 80 = a := by omega
                      rw [h1, Nat.min_eq_right (by omega)]
                      exact blk_of HT2.out HTW.out HT3.out
                  case measure =>
                    simp [intOf]; omega
                · have hmI : ¬ (a : Int) + 40 < (n : Int) := by omega
                  clear hIX ha ht' hb
                  go_wp2_with fail
                  go_roundw
                  case rel =>
                    have e1 := HTA.out
                    have e0 := ht.out
                    have e2 := HBB.out
                    refine ⟨80, R, by rw [Hid]; omega, rfl, HR, HSG, fun u hu => ?_, HS⟩
                    by_cases hut : u < t
                    · rw [Nat.min_eq_left (by omega)]
                      exact HB1.out u hut
                    · have h1 : u * 80 = a := by omega
                      have := HB2.out (2 * u) (by omega) (by omega)
                      rw [show 2 * u * 40 = a by omega, Nat.min_eq_right (by omega)] at this
                      rw [h1, Nat.min_eq_right (by omega)]
                      exact this
                  case measure =>
                    simp [intOf]; omega
          · omega
        · have hSI : ¬ (S : Int) < (n : Int) := by omega
          have hfin : SortR key R 0 n := by
            by_cases h0 : 0 < n
            · have := HLV.out 0 (by omega)
              rw [Nat.zero_mul, Nat.zero_add, Nat.min_eq_right (by omega)] at this
              exact this.so
            · intro p q p1 p2 p3; omega
          have HFN := Lib.hid hfin
          clear hfin hS
          go_wp2
          go_end0
          exact ⟨rfl, R, HR.out, HSG.out, HFN.out, HS.out⟩
end Go.Proofs.Ytkankfdpodofjaa
