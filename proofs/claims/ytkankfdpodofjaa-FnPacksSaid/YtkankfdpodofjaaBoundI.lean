/-
  A bound of tours by a way of telling lengths: the program's contract.
-/
import Derived.Test.YtkankfdpodofjaaTreeI
import Derived.Test.YtkankfdpodofjaaSort
import Derived.Test.YtkankfdpodofjaaOneN
namespace Go.Proofs.Ytkankfdpodofjaa
open Go.RowKit
set_option linter.unusedVariables false
set_option maxRecDepth 100000

def bndX (F S : Int) : Nat → Int
  | 0 => F
  | _ => S
def bndE (E : List Int) (F S : Int) : Nat → List Int
  | 0 => E
  | 1 => E ++ [0, F]
  | _ => E ++ [0, F] ++ [0, S]
def bndT (W : Int → Int → Int) (t F S : Int) : Nat → Int
  | 0 => t
  | 1 => t + W 0 F
  | _ => t + W 0 F + W 0 S
theorem bndE_succ (E : List Int) (F S : Int) {k : Nat} (h : k < 2) : bndE E F S (k + 1) = bndE E F S k ++ [0, bndX F S k] := by
  have : k = 0 ∨ k = 1 := by omega
  rcases this with rfl | rfl <;> rfl
theorem bndT_succ (W : Int → Int → Int) (t F S : Int) {k : Nat} (h : k < 2) : bndT W t F S (k + 1) = bndT W t F S k + W 0 (bndX F S k) := by
  have : k = 0 ∨ k = 1 := by omega
  rcases this with rfl | rfl <;> rfl
theorem bndE_len (E : List Int) (F S : Int) {k : Nat} (h : k ≤ 2) : (bndE E F S k).length = E.length + 2 * k := by
  have : k = 0 ∨ k = 1 ∨ k = 2 := by omega
  rcases this with rfl | rfl | rfl <;> simp [bndE]
theorem boundOf_eq (W : Int → Int → Int) (n : Nat) : boundOf W n = (bndE (treeOf W 1 (n - 1)).1 (fstOf (W 0) n) (sndOf (W 0) n) 2, bndT W (treeOf W 1 (n - 1)).2 (fstOf (W 0) n) (sndOf (W 0) n) 2) := rfl
set_option maxHeartbeats 1000000 in
set_option maxRecDepth 100000 in
theorem boundCmp_any (F : FuncId) (hF : ∀ args wx, (callFunc F args).run Try.prog wx = .ok (.enter F args) wx) (cap : Array Value) (W : Int → Int → Int) (n p : Nat) (w : World) (hn : n ≤ 10) (hp : w.cell? ⟨p, 0, none⟩ = some (.func (.func F) #[] cap))
    (hc : ∀ wx, Drew w wx → ∀ a b : Int, 0 ≤ a → a < n → 0 ≤ b → b < n → Calls Try.prog F (#[.int .i64 a, .int .i64 b] ++ cap) wx fun e w' => e = .returned (.int .i64 (W a b)) ∧ Drew wx w') (a b : Int) (ha : 0 ≤ a) (ha2 : a + 1 < n) (hb : 0 ≤ b) (hb2 : b + 1 < n) :
    Calls Try.prog 85 #[.int .i64 a, .int .i64 b, .pointer (some ⟨p, 0, none⟩)] w fun e w' => e = .returned (.int .i64 (cmpI (W 0 (a + 1)) (W 0 (b + 1)))) ∧ Drew w w' := by
  have HA := Lib.hid (fun k => hc (w.drewN k) (Drew.one w k) 0 (a + 1) (by omega) (by omega) (by omega) ha2)
  have HB := Lib.hid (fun k => hc (w.drewN k) (Drew.one w k) 0 (b + 1) (by omega) (by omega) (by omega) hb2)
  obtain ⟨x, hx⟩ : ∃ x, x = W 0 (a + 1) := ⟨_, rfl⟩
  obtain ⟨y, hy⟩ : ∃ y, y = W 0 (b + 1) := ⟨_, rfl⟩
  rw [← hx] at HA ⊢
  rw [← hy] at HB ⊢
  have v1 : IntKind.i64.wrap (a + 1) = a + 1 := IntWalk.i64_in _ (by omega)
  have v2 : IntKind.i64.wrap (b + 1) = b + 1 := IntWalk.i64_in _ (by omega)
  clear hc hx hy
  go_enter Try.func85, Try.ntmps85
  go_wp2_with fail
  go_quiet ((first | ((with_reducible exact quiet_drew (HA.out _))) | ((with_reducible exact quiet_drew (HB.out _))) | (go_at_call 65; exact quiet_same (compare_any _ _ _))))
  clear v1 v2
  go_wp2
  go_ret
  exact ⟨rfl, Drew.one _ _⟩
set_option maxHeartbeats 2000000 in
set_option maxRecDepth 100000 in
theorem boundEdges_any (F : FuncId) (hF : ∀ args wx, (callFunc F args).run Try.prog wx = .ok (.enter F args) wx) (cap : Array Value) (W : Int → Int → Int) (n : Nat) (w : World) (hn3 : 3 ≤ n) (hn : n ≤ 10) (hc : WayFn F cap W n w) (hr : WayRng W n) :
    Calls Try.prog 47 #[.int .i64 n, .func (.func F) #[] cap] w fun e w' => ∃ u, e = .returned (.tuple #[u, .int .i64 (boundOf W n).2]) ∧ OwnI w' w.heap.size w'.heap.size u (boundOf W n).1 ∧ Below w.heap.size w w' := by
  obtain ⟨W0, hW⟩ : ∃ W0, W0 = w.alloc (.cells #[.func (.func F) #[] cap] 65) := ⟨_, rfl⟩
  have hb0 : Below w.heap.size w W0 := by rw [hW]; exact (Below.refl _ _).alloc (Nat.le_refl _) _
  have hs0 : w.heap.size < W0.heap.size := by rw [hW]; simp
  have hp0 : W0.cell? ⟨w.heap.size, 0, none⟩ = some (.func (.func F) #[] cap) := by rw [hW]; exact one_new _ _ _
  have HC0 : Hid (WayFn F cap W n W0) := fun wx hb => hc wx (hb0.trans (hb.mono (by omega)))
  have HT := Lib.hid (cityTree_any F hF cap W n 1 W0 (by omega) hn HC0.out hr)
  have HTE := treeGo_rng W 1 (n - 1) (by omega) 1000000 (fun a b h1 h2 h3 h4 => hr a b (by omega) (by omega) (by omega) (by omega)) (n - 1 - 1) [1] [] 0 (by simp; omega) ⟨1, by omega, by omega, by simp⟩ (by simp)
  have HTE2 : Hid (treeGo W 1 (n - 1) (n - 1 - 1) [1] [] 0 = treeOf W 1 (n - 1)) := rfl
  rw [HTE2.out] at HTE
  obtain ⟨_, q2, q3, q4⟩ := HTE
  obtain ⟨f1, f2, _⟩ := fstOf_ok (W 0) hn3
  obtain ⟨s1, s2, _, _⟩ := sndOf_ok (W 0) hn3
  obtain ⟨rest, hrest⟩ := ord_two (W 0) (ltOf fun x y => cmpI (W 0 (x + 1)) (W 0 (y + 1))) (fun x y => by unfold ltOf; exact cmpI_lt _ _) hn3
  have HORD := Lib.hid hrest
  have HBO := Lib.hid (boundOf_eq W n)
  obtain ⟨E, hE⟩ : ∃ E, E = (treeOf W 1 (n - 1)).1 := ⟨_, rfl⟩
  obtain ⟨t, ht⟩ : ∃ t, t = (treeOf W 1 (n - 1)).2 := ⟨_, rfl⟩
  obtain ⟨f, hf⟩ : ∃ f, f = fstOf (W 0) n := ⟨_, rfl⟩
  obtain ⟨s, hs⟩ : ∃ s, s = sndOf (W 0) n := ⟨_, rfl⟩
  rw [show ((1 : Nat) : Int) = 1 from rfl] at HT
  rw [← hE] at HT q2 HBO
  rw [← ht] at HT q3 q4 HBO
  rw [← hf] at f1 f2 HORD HBO
  rw [← hs] at s1 s2 HORD HBO
  have HR := Lib.hid hr
  have hq2 : E.length ≤ 20 := by rw [q2]; simp; omega
  have hq3 : -10000000 ≤ t := by omega
  have hq4 : t ≤ 10000000 := by omega
  have HX : Hid (∀ k, 1 ≤ bndX f s k ∧ bndX f s k < n) := fun k => by unfold bndX; split <;> omega
  clear hc hr hE ht hf hs hrest q2 q3 q4 f1 f2 s1 s2 HTE2
  go_enter Try.func47, Try.ntmps47
  go_wp2_with fail
  rw [← hW]
  clear hW
  go_wp2_with fail
  refine HT.out.mono ?_
  rintro e w1 ⟨u, rfl, ho1, hb1⟩
  have HE1 := Lib.hid ho1
  have hs1 := hb1.size
  have hp1 : w1.cell? ⟨w.heap.size, 0, none⟩ = some (.func (.func F) #[] cap) := by rw [hb1.cell (p := ⟨w.heap.size, 0, none⟩) hs0]; exact hp0
  have HB1 := Lib.hid (hb0.trans (hb1.mono (by omega)))
  have HP1 := Lib.hid hp1
  have HC1 : Hid (WayFn F cap W n w1) := fun wx hb => HC0.out wx (hb1.trans (hb.mono hs1))
  obtain ⟨n1, hn1⟩ : ∃ n1 : Nat, n = n1 + 1 := ⟨n - 1, by omega⟩
  have HN1 := Lib.hid hn1
  have HO := Lib.hid (orderBy_any 85 (fun _ _ => by kernel_rfl) #[.pointer (some ⟨w.heap.size, 0, none⟩)] (fun x y => cmpI (W 0 (x + 1)) (W 0 (y + 1))) (n := n1) w1 (by omega) (by omega) (fun wx hbw a b h1 h2 h3 h4 => boundCmp_any F hF cap W n w.heap.size wx hn (by rw [hbw.cell (p := ⟨w.heap.size, 0, none⟩) (show w.heap.size < w1.heap.size by omega)]; exact HP1.out) (fun wy hd => HC1.out wy (hbw.trans (hd.below _))) a b h1 (by omega) h3 (by omega)))
  have HORD2 : Hid (ordTo (ltOf fun x y => cmpI (W 0 (x + 1)) (W 0 (y + 1))) n1 = (f - 1) :: (s - 1) :: rest) := by
    have := HORD.out; rw [HN1.out, Nat.add_sub_cancel] at this; exact this
  rw [HORD2.out] at HO
  have hnI : (n : Int) - 1 = (n1 : Int) := by omega
  have hn1b : n1 ≤ 9 := by omega
  have HBW := Lib.hid hb1
  have HB0 := Lib.hid hb0
  have HP0 := Lib.hid hp0
  clear ho1 hb1 hb0 hp0 hn1 HT HORD HORD2 hp1
  go_wp2_with fail
  refine HO.out.mono ?_
  rintro e w2 ⟨u2, rfl, ho2, hb2⟩
  have hs2 := hb2.size
  rcases ho2.rowOf with ⟨_, h0⟩ | ⟨g, oc, rfl, hg1, hg2, hg3, hrow⟩
  · exact absurd h0 (by simp)
  have hrl := hrow.length
  have hgge := hrow.ge
  have HROW := Lib.hid hrow
  have HE2 := Lib.hid ((HE1.out.below hb2 (Nat.le_refl _)).mono (Nat.le_refl W0.heap.size) hs2 (Nat.le_refl _))
  have HAP : Hid (∀ p, u.ownBlock = some p → p ≠ g) := fun p hp => by have := HE1.out.own.blk p hp; omega
  have hlen : ((f - 1) :: (s - 1) :: rest).length = rest.length + 2 := rfl
  rw [hlen] at hg2 HROW ⊢
  have HCELL : Hid (∀ (wx : World) (k : Nat), k < 2 → RowI wx w1.heap.size g (rest.length + 2) oc ((f - 1) :: (s - 1) :: rest) → wx.cell? ⟨g, k, none⟩ = some (.int .i64 (bndX f s k - 1))) := fun wx k hk hR => by
    rw [hR.cell (by omega)]
    have : k = 0 ∨ k = 1 := by omega
    rcases this with rfl | rfl <;> rfl
  have HB2 : Hid (Below W0.heap.size W0 w2) := HBW.out.trans (hb2.mono hs1)
  have HBA : Hid (∀ wx, Below W0.heap.size W0 wx → Below w.heap.size w wx) := fun wx h => HB0.out.trans (h.mono (by omega))
  have HBC : Hid (∀ wx, Below W0.heap.size W0 wx → wx.cell? ⟨w.heap.size, 0, none⟩ = some (.func (.func F) #[] cap)) := fun wx h => by rw [h.cell (p := ⟨w.heap.size, 0, none⟩) hs0]; exact HP0.out
  have hgw2 : g < w2.heap.size := hrow.lt
  have hs20 : W0.heap.size ≤ w2.heap.size := HB2.out.size
  have HBE := Lib.hid (fun k (h : k < 2) => bndE_succ E f s h)
  have HBT := Lib.hid (fun k (h : k < 2) => bndT_succ W t f s h)
  have HBL := Lib.hid (fun k (h : k ≤ 2) => bndE_len E f s h)
  have HE0 : Hid (bndE E f s 0 = E) := rfl
  have HT0 : Hid (bndT W t f s 0 = t) := rfl
  clear ho2 hb2 hrow hrl hlen HE1 HO HP1 HC1 hgge
  go_wp2_with fail
  go_loopw [6, 7, 24] (fun ev tv kv wr => ∃ (k : Nat), k ≤ 2 ∧ kv = .int .i64 k ∧ tv = .int .i64 (bndT W t f s k) ∧ -10000000 - 1000000 * (k : Int) ≤ bndT W t f s k ∧ bndT W t f s k ≤ 10000000 + 1000000 * (k : Int) ∧ Hid (OwnI wr W0.heap.size wr.heap.size ev (bndE E f s k)) ∧ Hid (RowI wr w1.heap.size g (rest.length + 2) oc ((f - 1) :: (s - 1) :: rest)) ∧ Hid (∀ p, ev.ownBlock = some p → p ≠ g) ∧ Hid (Below W0.heap.size W0 wr)) (fun _ _ kv _ => 2 - (intOf kv).toNat)
  case atStart => exact ⟨0, by omega, rfl, rfl, by rw [HT0.out]; omega, by rw [HT0.out]; omega, by rw [HE0.out]; exact HE2, HROW, HAP, HB2⟩
  case round =>
    clear HE2 HROW HAP HB2 HE0 HT0
    obtain ⟨k, hk, rfl, rfl, ht1, ht2, HE, HROW, HAP, HB⟩ := hrel
    by_cases hk2 : k < 2
    · have hcell := HCELL.out wr k hk2 HROW.out
      have hbox := HBC.out wr HB.out
      have hBE := HBE.out k hk2
      have hBT := HBT.out k hk2
      have hx := HX.out k
      have hw := HR.out 0 (bndX f s k) (by omega) (by omega) (by omega) (by omega)
      have hel := HBL.out k hk
      obtain ⟨x, hxx⟩ : ∃ x, x = bndX f s k := ⟨_, rfl⟩
      rw [← hxx] at hcell hBE hBT hx hw
      obtain ⟨y, hy⟩ : ∃ y, y = W 0 x := ⟨_, rfl⟩
      rw [← hy] at hBT hw
      have HWX := Lib.hid (fun wx (hb : Below W0.heap.size W0 wx) => HC0.out wx hb 0 x (by omega) (by omega) (by omega) (by omega))
      rw [← hy] at HWX
      obtain ⟨T, hT⟩ : ∃ T, T = bndT W t f s k := ⟨_, rfl⟩
      rw [← hT] at ht1 ht2 hBT ⊢
      have hx1 := hx.1
      have hx2 := hx.2
      have hw1 := hw.1
      have hw2 := hw.2
      have HIX : Hid (I64 x) := by rw [Hid]; unfold I64; omega
      have HI0 : Hid (I64 0) := by rw [Hid]; unfold I64; omega
      have hsr := HB.out.size
      obtain ⟨ea, ec, rfl⟩ := HE.out.shape2
      have HBE1 := Lib.hid hBE
      have HBT1 := Lib.hid hBT
      have HEL : (bndE E f s k).length ≤ 100 := by omega
      have hxs : x - 1 + 1 = x := by omega
      clear hx hw hel hxx hy hT hBE hBT
      go_wp2_with (at_builtin; refine wpList_app2K rfl _ _ rfl _ (bndE E f s k) rfl 0 x _ HE.out rfl HI0.out HIX.out (by omega) hsr ?_)
      intro v3 w3 ho3 hk3 hsm3 hz3 hb3
      have HB3 := Lib.hid (HB.out.trans (hsm3.below (Nat.le_refl _) hsr))
      have HE3 : Hid (OwnI w3 W0.heap.size w3.heap.size v3 (bndE E f s (k + 1))) := by rw [Hid, HBE1.out]; exact ho3
      have hgl := HROW.out.lt
      have HR3 := Lib.hid (HROW.out.keep (hk3 g hgl (fun e => HAP.out g e rfl)))
      have HAP3 : Hid (∀ p, v3.ownBlock = some p → p ≠ g) := fun p hp => by
        rcases hb3 with h | h
        · exact HAP.out p (h ▸ hp)
        · rw [h] at hp; cases hp; omega
      have hbox3 := HBC.out w3 HB3.out
      have HT3 := Lib.hid (HWX.out w3 HB3.out)
      clear ho3 hk3 hsm3 hz3 hb3 hcell hbox
      go_wp2_with fail
      refine HT3.out.mono ?_
      rintro e w4 ⟨rfl, hd4⟩
      have HD4 := Lib.hid hd4
      have hh4 : w3.heap.size ≤ w4.heap.size := by rw [HD4.out.heap]; exact Nat.le_refl _
      have HE4 := Lib.hid ((HE3.out.drew HD4.out).mono (Nat.le_refl _) hh4 (Nat.le_refl _))
      have HR4 := Lib.hid (HR3.out.drew HD4.out)
      have HB4 := Lib.hid (HB3.out.trans (HD4.out.below _))
      clear hd4 hbox3 hh4
      go_wp2
      go_roundw
      case rel => exact ⟨k + 1, by omega, by go_num, by rw [HBT1.out], by rw [HBT1.out]; omega, by rw [HBT1.out]; omega, HE4, HR4, HAP3, HB4⟩
      case measure => (simp [intOf]; try omega)
    · obtain rfl : k = 2 := by omega
      go_wp2
      go_ret2
      exact ⟨_, by rw [HBO.out]; rfl, by rw [HBO.out]; exact HE.out.mono (by omega) (Nat.le_refl _) (Nat.le_refl _), HBA.out _ HB.out⟩
end Go.Proofs.Ytkankfdpodofjaa
