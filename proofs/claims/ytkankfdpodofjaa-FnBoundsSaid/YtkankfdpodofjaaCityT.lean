/-
  CityTree: contract in the program, where ways are ways.
-/
import Derived.Test.YtkankfdpodofjaaTreeI
import Derived.Test.YtkankfdpodofjaaOneN
import Derived.Test.YtkankfdpodofjaaBoundS
namespace Go.Proofs.Ytkankfdpodofjaa
open Go.RowKit
set_option linter.unusedVariables false
set_option maxRecDepth 100000

set_option maxHeartbeats 1000000 in
set_option maxRecDepth 100000 in
theorem treeWay_any {l h p q n : Nat} (v : Value) (ws : List Int) (w : World) (hp : w.cell? ⟨p, 0, none⟩ = some v) (hq : w.cell? ⟨q, 0, none⟩ = some (.int .i64 n)) (hv : Ints w l h v ws) (hl : n * n = ws.length) (hn : n ≤ 10) (a b : Int) (ha : 0 ≤ a) (ha2 : a < n) (hb : 0 ≤ b) (hb2 : b < n) :
    Calls Try.prog 46 #[.int .i64 a, .int .i64 b, .pointer (some ⟨p, 0, none⟩), .pointer (some ⟨q, 0, none⟩)] w fun e w' => e = .returned (.int .i64 (wayOf ws n a b)) ∧ Drew w w' := by
  obtain ⟨A, rfl⟩ : ∃ A : Nat, a = (A : Int) := ⟨a.toNat, by omega⟩
  obtain ⟨B, rfl⟩ : ∃ B : Nat, b = (B : Int) := ⟨b.toNat, by omega⟩
  have hA : A < n := by omega
  have hB : B < n := by omega
  obtain ⟨va, vc, rfl, hc1, hc2, hd⟩ := hv.out
  have hpl := pos_lt hA hB
  rcases hd with hd | ⟨blk, off, rfl, hb1, hbb2, hb3, hcell⟩
  · exfalso; rw [hl, hd] at hpl; simp at hpl
  have hc := hcell (A * n + B) (by omega)
  have HE := Lib.hid (wayOf_nat ws n A B)
  have hp1 := prod_nat A n
  have hq1 := prod_le (i := A) (n := n) (by omega) hn
  have hpl2 : A * n + B < ws.length := by omega
  obtain ⟨x, hx⟩ : ∃ x, x = ws.getD (A * n + B) 0 := ⟨_, rfl⟩
  rw [← hx] at hc HE
  obtain ⟨s, hs⟩ : ∃ s, s = A * n := ⟨_, rfl⟩
  rw [← hs] at hc hp1 hq1 hpl2
  have z1 : (s : Int) + (B : Int) < (ws.length : Int) := by omega
  have z2 : (0 : Int) ≤ (s : Int) + (B : Int) := by omega
  have z6 : ((s : Int) + (B : Int)).toNat = s + B := by omega
  clear hcell hv hl hx hs hpl
  go_enter Try.func46, Try.ntmps46
  go_wp2
  go_ret
  exact ⟨ret_int HE.out.symm, Drew.refl _⟩
set_option maxHeartbeats 1000000 in
set_option maxRecDepth 100000 in
theorem implCityTree_any (w : World) {l h : Nat} (v : Value) (ws : List Int) (n : Nat) (hv : Ints w l h v ws) (hh : h ≤ w.heap.size) (hz : ws.length ≤ 1048576) (hic : isCit ws = true) (hrt : root ws.length = n) :
    Calls Try.prog 11 #[v] w fun e w' => ∃ u, e = .returned (.tuple #[u, .int .i64 (treeOf (wayOf ws n) 0 n).2, .bool true]) ∧ OwnI w' w.heap.size w'.heap.size u (treeOf (wayOf ws n) 0 n).1 ∧ Below w.heap.size w w' := by
  obtain ⟨va, vc, rfl, hc1, hc2, _⟩ := hv.out
  obtain ⟨W0, hW⟩ : ∃ W0, W0 = w.alloc (.cells #[.slice va ws.length vc] 25) := ⟨_, rfl⟩
  have hb0 : Below w.heap.size w W0 := by rw [hW]; exact (Below.refl _ _).alloc (Nat.le_refl _) _
  have hs0 : w.heap.size < W0.heap.size := by rw [hW]; simp
  have hp0 : W0.cell? ⟨w.heap.size, 0, none⟩ = some (.slice va ws.length vc) := by rw [hW]; exact one_new _ _ _
  have HV := Lib.hid (hv.below hb0 hh)
  have HA := Lib.hid (areCities_any _ ws W0 HV.out hz)
  have HB0 := Lib.hid hb0
  have HP0 := Lib.hid hp0
  have HW := Lib.hid hW
  obtain ⟨r1, r2, r3, r4, _⟩ := isCit_out hic
  rw [hrt] at r1 r2 r3
  have ec : citI ws.length = (n : Int) := by rw [citI, hrt, if_neg (by omega)]
  have HC := Lib.hid (fun (wx : World) (hv : Ints wx l h (.slice va ws.length vc) ws) => cities_any _ ws wx hv hz)
  rw [ec] at HC
  rw [hic] at HA
  have HQ4 := Lib.hid r3
  have HQ5 : Hid (WayRng (wayOf ws n) n) := fun a b a1 a2 b1 b2 => by have := wayOf_rng r3 r4 a1 a2 b1 b2; omega
  have hn10 : n ≤ 10 := r2
  have hn1 : 1 ≤ n := r1
  clear hv hb0 hW hic hp0 r1 r2 r3 r4 ec hrt
  go_enter Try.func11, Try.ntmps11
  go_wp2_with fail
  rw [← HW.out]
  have hp := HP0.out
  go_wp2_with fail
  refine HA.out.mono ?_
  rintro e w1 ⟨rfl, hd⟩
  have HD := Lib.hid hd
  have hp1 : w1.cell? ⟨w.heap.size, 0, none⟩ = some (.slice va ws.length vc) := by rw [HD.out.cell]; exact HP0.out
  have HC1 := Lib.hid (HC.out w1 (HV.out.drew HD.out))
  have hs1 : w1.heap.size = W0.heap.size := by rw [HD.out.heap]
  have HS1 := Lib.hid hs1
  have HP1 := Lib.hid hp1
  clear hd hp hs1
  go_wp2_with fail
  refine HC1.out.mono ?_
  rintro e w' ⟨rfl, rfl⟩
  have hs1w : w.heap.size < w1.heap.size := by rw [HS1.out]; exact hs0
  have HBX : Hid (∀ wx, Below (w1.alloc (.cells #[.int .i64 (n : Int)] 2)).heap.size (w1.alloc (.cells #[.int .i64 (n : Int)] 2)) wx → Below w1.heap.size w1 wx ∧ wx.cell? ⟨w1.heap.size, 0, none⟩ = some (.int .i64 (n : Int))) := fun wx hb => by
    have h1 : (w1.alloc (.cells #[.int .i64 (n : Int)] 2)).heap.size = w1.heap.size + 1 := by simp
    refine ⟨((Below.refl _ _).alloc (Nat.le_refl _) _).trans (hb.mono (by omega)), ?_⟩
    rw [hb.cell (p := ⟨w1.heap.size, 0, none⟩) (show w1.heap.size < _ by omega)]
    exact one_new _ _ _
  have HBE := Lib.hid (cityTree_any 46 (fun _ _ => by kernel_rfl) #[.pointer (some ⟨w.heap.size, 0, none⟩), .pointer (some ⟨w1.heap.size, 0, none⟩)] (wayOf ws n) n 0 (w1.alloc (.cells #[.int .i64 (n : Int)] 2)) (by omega) hn10 (fun wx hb a b a1 a2 b1 b2 => by
    obtain ⟨g1, g2⟩ := HBX.out wx hb
    exact treeWay_any _ ws wx (by rw [g1.cell (p := ⟨w.heap.size, 0, none⟩) hs1w]; exact HP1.out) g2 ((HV.out.drew HD.out).below g1 (by omega)) HQ4.out hn10 a b a1 a2 b1 b2) HQ5.out)
  rw [Nat.sub_zero, show (((0 : Nat) : Int)) = 0 from rfl] at HBE
  clear hp1
  have hp1 := HP1.out
  go_wp2_with fail
  refine HBE.out.mono ?_
  rintro e w2 ⟨u, rfl, ho2, hb2⟩
  have HB2 : Hid (Below w.heap.size w w2) := (HB0.out.trans (HD.out.below _)).trans (((alloc_belowT w1 _).trans (hb2.mono (by simp))).mono (by omega))
  have HO2 : Hid (OwnI w2 w.heap.size w2.heap.size u (treeOf (wayOf ws n) 0 n).1) := ho2.mono (by simp; omega) (Nat.le_refl _) (Nat.le_refl _)
  clear hb2 ho2
  go_wp2
  go_ret3
  exact ⟨u, rfl, HO2.out, HB2.out⟩
end Go.Proofs.Ytkankfdpodofjaa
