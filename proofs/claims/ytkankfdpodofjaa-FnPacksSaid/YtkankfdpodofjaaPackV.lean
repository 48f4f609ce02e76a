/-
  FnPacks: the ways to fill a room, in the program.
-/
import Derived.Test.YtkankfdpodofjaaPackU
namespace Go.Proofs.Ytkankfdpodofjaa
open Go.RowKit
set_option linter.unusedVariables false
set_option maxRecDepth 100000

/-- the ways with i things, and with one more from c on -/
def wayRow (ss : List Int) (R i c : Nat) : List Int := (List.range (R + 1)).map fun q => if c ≤ q then wayTo ss (i + 1) q else wayTo ss i q
def wayAll (ss : List Int) (R i : Nat) : List Int := (List.range (R + 1)).map (wayTo ss i)
theorem wayRow_len (ss : List Int) (R i c : Nat) : (wayRow ss R i c).length = R + 1 := by simp [wayRow]
theorem wayAll_len (ss : List Int) (R i : Nat) : (wayAll ss R i).length = R + 1 := by simp [wayAll]
theorem wayRow_start (ss : List Int) (R i : Nat) : wayRow ss R i (R + 1) = wayAll ss R i := by
  apply List.map_congr_left
  intro q hq
  rw [List.mem_range] at hq
  rw [if_neg (by omega)]
theorem wayRow_end (ss : List Int) (R i c : Nat) (hc : c ≤ (ss.getD i 0).toNat) : wayRow ss R i c = wayAll ss R (i + 1) := by
  apply List.map_congr_left
  intro q hq
  split
  · rfl
  · rename_i h; rw [wayTo, if_neg (by omega)]
theorem wayRow_at (ss : List Int) {R i c q : Nat} (h : q < c) (hq : q ≤ R) : (wayRow ss R i c).getD q 0 = wayTo ss i q := by
  simp [wayRow, List.getD, show q < R + 1 by omega, show ¬ c ≤ q by omega]
theorem wayAll_at (ss : List Int) {R i q : Nat} (hq : q ≤ R) : (wayAll ss R i).getD q 0 = wayTo ss i q := by
  simp [wayAll, List.getD, show q < R + 1 by omega]
theorem wayRow_step (ss : List Int) {R i c : Nat} (h : c ≤ R) (hs : (ss.getD i 0).toNat ≤ c) : (wayRow ss R i (c + 1)).set c (wayTo ss i c + wayTo ss i (c - (ss.getD i 0).toNat)) = wayRow ss R i c := by
  have ht : wayTo ss (i + 1) c = wayTo ss i c + wayTo ss i (c - (ss.getD i 0).toNat) := by rw [wayTo, if_pos hs]
  rw [← ht]
  apply List.ext_getElem (by rw [List.length_set, wayRow_len, wayRow_len])
  intro k h1 h2
  rw [List.getElem_set]
  simp only [wayRow, List.getElem_map, List.getElem_range]
  by_cases e : c = k
  · subst e; rw [if_pos rfl, if_pos (Nat.le_refl _)]
  · rw [if_neg e]
    by_cases e2 : c ≤ k
    · rw [if_pos e2, if_pos (by omega)]
    · rw [if_neg e2, if_neg (by omega)]
theorem wayAll_zero (ss : List Int) (R : Nat) : (List.replicate (R + 1) (0 : Int)).set 0 1 = wayAll ss R 0 := by
  apply List.ext_getElem (by simp [wayAll_len])
  intro k h1 h2
  rw [List.getElem_set]
  simp only [wayAll, List.getElem_map, List.getElem_range, List.getElem_replicate, wayTo]
  by_cases e : k = 0
  · subst e; rfl
  · rw [if_neg e, if_neg (by omega)]
theorem PkH.wayR {n R : Nat} {ss gs : List Int} (h : PkH n R ss gs) (i r : Nat) (hi : i ≤ n) : 0 ≤ wayTo ss i r ∧ wayTo ss i r ≤ 128 := by
  have h1 := way_rng ss (fun i => (h.s0 i).1) i r
  have h2 : 2 ^ i ≤ 2 ^ 7 := Nat.pow_le_pow_right (by decide) (by have := h.n7; omega)
  omega
set_option maxHeartbeats 4000000 in
set_option maxRecDepth 100000 in
theorem implWaysToFill_any (w : World) {l h n R : Nat} (v : Value) (ss gs : List Int) (hv : Ints w l h v ss) (hh : h ≤ w.heap.size) (H : PkH n R ss gs) :
    Calls Try.prog 19 #[v, .int .i64 R] w fun e w' => e = .returned (.tuple #[.int .i64 (wayTo ss n R), .bool true]) ∧ Below w.heap.size w w' := by
  have h1 := H.n1
  have h7 := H.n7
  have hr1 := H.r1
  have hr2 := H.r2
  have HP := Lib.hid H
  have HA : Hid (Calls Try.prog 59 #[v] w fun e w' => e = .returned (.bool true) ∧ w = w') := by
    have := areSizes_any v ss w hv (by have := H.ls; omega)
    rw [H.things] at this
    exact this
  have HI : Hid (Calls Try.prog 60 #[.int .i64 R] w fun e w' => e = .returned (.bool true) ∧ w = w') := by
    have := isRoom_any (R : Int) w
    rw [show inB 0 1000 (R : Int) = true from by rw [inB_iff]; omega] at this
    exact this
  obtain ⟨b, off, cap, rfl, hc1, hc2, hb, SC⟩ := hv.seen hh H.ls h1
  have HM := raise_made (R + 1) (by omega)
  have hR1 : ((R + 1 : Nat) : Int) = (R : Int) + 1 := by omega
  rw [hR1] at HM
  clear hv H
  go_enter Try.func19, Try.ntmps19
  go_wp2_with fail
  refine HA.out.mono ?_
  rintro e w' ⟨rfl, rfl⟩
  go_wp2_with fail
  refine HI.out.mono ?_
  rintro e w' ⟨rfl, rfl⟩
  go_upto_region 4 with (fail)
  obtain ⟨W1, hW1⟩ : ∃ X, X = w.alloc (.cells (madeCells #[Value.int .i64 0] (R + 1)) 2) := ⟨_, rfl⟩
  rw [← hW1]
  have hrow : RowI W1 w.heap.size w.heap.size (R + 1) (R + 1) (List.replicate (R + 1) 0) := by rw [hW1]; exact raise_row w (R + 1) (by omega)
  have hb01 : Below w.heap.size w W1 := by rw [hW1]; exact below_newW _ _
  have HRz : Hid (RowI (W1.setCell ⟨w.heap.size, 0, none⟩ (.int .i64 1)) w.heap.size w.heap.size (R + 1) (R + 1) (wayAll ss R 0)) := by rw [← wayAll_zero]; exact hrow.stored 0 1
  have HBz : Hid (Below w.heap.size w (W1.setCell ⟨w.heap.size, 0, none⟩ (.int .i64 1))) := hb01.setCell (Nat.le_refl _) _
  have c0 := hrow.cell (k := 0) (by omega)
  have f0 := hrow.frozen 0
  have z0 : (0 : Int) < (R : Int) + 1 := by omega
  clear hrow hb01 hW1 HM
  go_wp2_with fail
  go_loopw [25] (fun iv wr => ∃ i : Nat, i ≤ n ∧ iv = .int .i64 i ∧ Hid (RowI wr w.heap.size w.heap.size (R + 1) (R + 1) (wayAll ss R i)) ∧ Hid (Below w.heap.size w wr)) (fun iv _ => n - (intOf iv).toNat)
  case atStart => exact ⟨0, Nat.zero_le _, rfl, HRz, HBz⟩
  case round =>
    clear HRz HBz
    obtain ⟨i, hi, rfl, HR, HB⟩ := hrel
    obtain ⟨w2, rfl⟩ : ∃ X, X = wr := ⟨_, rfl⟩
    by_cases hin : i < n
    · have cs := SC.out w2 i HB.out hin
      have hsr := HP.out.sAt hin
      have HTR := Lib.hid (fun r => HP.out.wayR i r hi)
      have HST := Lib.hid (wayRow_start ss R i)
      have HEN := Lib.hid (fun c => wayRow_end ss R i c)
      have HSX := Lib.hid (fun c (h1 : c ≤ R) (h2 : (ss.getD i 0).toNat ≤ c) => wayRow_step ss h1 h2)
      obtain ⟨s, hs⟩ : ∃ s : Nat, ss.getD i 0 = (s : Int) := ⟨(ss.getD i 0).toNat, by omega⟩
      rw [hs] at cs hsr HEN HSX
      rw [Int.toNat_natCast] at HEN HSX
      have HR1 : Hid (RowI w2 w.heap.size w.heap.size (R + 1) (R + 1) (wayRow ss R i (R + 1))) := by rw [HST.out]; exact HR
      clear hs HST HR
      go_wp2_with fail
      go_loopw [9] (fun rv wr => ∃ (c : Nat) (x : Int), c ≤ R + 1 ∧ s ≤ c ∧ x = (c : Int) - 1 ∧ rv = .int .i64 x ∧ Hid (RowI wr w.heap.size w.heap.size (R + 1) (R + 1) (wayRow ss R i c)) ∧ Hid (Below w.heap.size w wr)) (fun rv _ => (intOf rv + 1).toNat)
      case atStart => exact ⟨R + 1, R, Nat.le_refl _, by omega, by omega, rfl, HR1, HB⟩
      case round =>
        clear HR1 HB cs
        obtain ⟨c, x, hc, hsc, hx, rfl, HR, HB⟩ := hrel
        by_cases hle : s < c
        · obtain ⟨q, rfl⟩ : ∃ q, c = q + 1 := ⟨c - 1, by omega⟩
          obtain rfl : x = (q : Int) := by omega
          have hq : q ≤ R := by omega
          have hsq : s ≤ q := by omega
          have zq : (s : Int) ≤ (q : Int) := by omega
          have cy := HR.out.cell (show q < R + 1 by omega)
          have cz := HR.out.cell (show q - s < R + 1 by omega)
          rw [wayRow_at ss (by omega) hq] at cy
          rw [wayRow_at ss (by omega) (by omega)] at cz
          have fr := HR.out.frozen q
          have t1 := HTR.out q
          have t2 := HTR.out (q - s)
          have hmx := HSX.out q hq hsq
          have HRR : Hid (∀ u, RowI (wr.setCell ⟨w.heap.size, q, none⟩ (.int .i64 u)) w.heap.size w.heap.size (R + 1) (R + 1) ((wayRow ss R i (q + 1)).set q u)) := fun u => HR.out.stored q u
          have HBB : Hid (∀ u, Below w.heap.size w (wr.setCell ⟨w.heap.size, q, none⟩ (.int .i64 u))) := fun u => HB.out.setCell (Nat.le_refl _) _
          obtain ⟨p, hp⟩ : ∃ p, p = q - s := ⟨_, rfl⟩
          have hps : (q : Int) - (s : Int) = (p : Int) := by omega
          have zp : p ≤ R := by omega
          have z1 : (q : Int) < (R : Int) + 1 := by omega
          have z2 : (p : Int) < (R : Int) + 1 := by omega
          rw [← hp] at cz t2 hmx
          obtain ⟨y, hy⟩ : ∃ y, y = wayTo ss i q := ⟨_, rfl⟩
          obtain ⟨z, hz⟩ : ∃ z, z = wayTo ss i p := ⟨_, rfl⟩
          rw [← hy] at cy t1 hmx
          rw [← hz] at cz t2 hmx
          have HMX := Lib.hid hmx
          clear hp hy hz hmx hx hc hsc
          go_wp2_with fail
          go_region
          have HR9 : RowI ((wr.setCell ⟨w.heap.size, q, none⟩ (.int .i64 (y + z))).drew) w.heap.size w.heap.size (R + 1) (R + 1) ((wayRow ss R i (q + 1)).set q (y + z)) := (HRR.out (y + z)).drewN 1
          rw [HMX.out] at HR9
          have HB9 : Below w.heap.size w ((wr.setCell ⟨w.heap.size, q, none⟩ (.int .i64 (y + z))).drew) := (HBB.out (y + z)).trans ((Drew.one _ 1).below _)
          generalize hw9 : ((wr.setCell ⟨w.heap.size, q, none⟩ (.int .i64 (y + z))).drew) = w9 at HR9 HB9 ⊢
          clear hw9
          have HR9' := Lib.hid HR9
          have HB9' := Lib.hid HB9
          clear HR9 HB9 HMX
          go_wp2
          go_roundw
          case rel => exact ⟨q, (q : Int) - 1, by omega, hsq, rfl, by go_num, HR9', HB9'⟩
          case measure => (simp [intOf]; try omega)
        · have hxs : ¬ ((s : Int) ≤ x) := by omega
          have hR9 := HR.out
          rw [HEN.out c (by omega)] at hR9
          have HR9 := Lib.hid hR9
          clear hR9 HR HEN HSX hx
          go_wp2
          go_roundw
          case rel => exact ⟨i + 1, by omega, by go_num, HR9, HB⟩
          case measure => (simp [intOf]; try omega)
    · obtain rfl : i = n := by omega
      have cR := HR.out.cell (show R < R + 1 by omega)
      rw [wayAll_at ss (Nat.le_refl _)] at cR
      have zR : (R : Int) < (R : Int) + 1 := by omega
      go_wp2
      go_ret2
      exact ⟨rfl, HB.out⟩
theorem sumP_all {zs : List Int} : ∀ k, k ≤ zs.length → sumP zs k = pSum zs (fun _ => true) k := by
  intro k
  induction k with
  | zero => intro _; simp [sumP, pSum]
  | succ k ih => intro h; rw [sumP_succ (by omega), pSum, ih (by omega)]; simp
theorem pSum_none (zs : List Int) (n : Nat) : pSum zs (dgt 0) n = 0 := by
  induction n with
  | zero => rfl
  | succ k ih => rw [pSum, ih]; simp [dgt]
theorem lSum_take (zs D : List Int) {k : Nat} (hk : k < D.length) : lSum zs (D.take (k + 1)) = lSum zs (D.take k) + zs.getD (D.getD k 0).toNat 0 := by
  rw [← List.take_append_getElem hk, lSum_append]
  simp [lSum, List.getD, List.getElem?_eq_getElem hk]
theorem lSum_rng {zs : List Int} {M : Int} (h : ∀ i, 0 ≤ zs.getD i 0 ∧ zs.getD i 0 ≤ M) : ∀ D : List Int, 0 ≤ lSum zs D ∧ lSum zs D ≤ M * D.length := by
  intro D
  induction D with
  | nil => simp [lSum]
  | cons x r ih =>
    rw [lSum, List.length_cons, show M * ((r.length + 1 : Nat) : Int) = M * (r.length : Int) + M by rw [Int.natCast_add, Int.mul_add]; simp]
    have := h x.toNat
    omega
/-- the best half so far: among the sets of even numbers below 2 c -/
structure HalfTo (ss : List Int) (n : Nat) (tot : Int) (c b : Nat) (gap : Int) : Prop where
  lt : b < 2 ^ n
  eq : gap = farOf tot (pSum ss (dgt b) n)
  le : ∀ m, m < c → gap ≤ farOf tot (pSum ss (dgt (2 * m)) n)
theorem HalfTo.start (ss : List Int) (n : Nat) {tot : Int} (h : 0 ≤ tot) : HalfTo ss n tot 0 0 tot :=
  ⟨Nat.pow_pos (by decide), by rw [pSum_none]; unfold farOf; omega, fun m hm => by omega⟩
theorem HalfTo.same {ss : List Int} {n : Nat} {tot : Int} {c b : Nat} {gap : Int} (h : HalfTo ss n tot c b gap) (hf : ¬ farOf tot (pSum ss (dgt (2 * c)) n) < gap) : HalfTo ss n tot (c + 1) b gap :=
  ⟨h.lt, h.eq, fun m hm => by
    by_cases e : m = c
    · subst e; omega
    · exact h.le m (by omega)⟩
theorem HalfTo.better {ss : List Int} {n : Nat} {tot : Int} {c b : Nat} {gap : Int} (h : HalfTo ss n tot c b gap) (hc : 2 * c < 2 ^ n) (hf : farOf tot (pSum ss (dgt (2 * c)) n) < gap) : HalfTo ss n tot (c + 1) (2 * c) (farOf tot (pSum ss (dgt (2 * c)) n)) :=
  ⟨hc, rfl, fun m hm => by
    by_cases e : m = c
    · subst e; omega
    · have := h.le m (by omega); omega⟩
theorem HalfTo.done {ss : List Int} {n : Nat} {tot : Int} {c b : Nat} {gap : Int} (h : HalfTo ss n tot c b gap) (hc : 2 ^ n ≤ 2 * c) : HalfS ss n tot b gap :=
  ⟨h.lt, h.eq, fun m hm he => by
    have := h.le (m / 2) (by omega)
    rwa [show 2 * (m / 2) = m by omega] at this⟩
set_option maxHeartbeats 4000000 in
set_option maxRecDepth 100000 in
theorem implBestHalves_any (w : World) {l h n R : Nat} (v : Value) (ss gs : List Int) (hv : Ints w l h v ss) (hh : h ≤ w.heap.size) (H : PkH n R ss gs) :
    Calls Try.prog 20 #[v] w fun e w' => ∃ (u : Value) (m : Nat) (gap : Int), e = .returned (.tuple #[u, .int .i64 gap, .bool true]) ∧ HalfS ss n (pSum ss (fun _ => true) n) m gap ∧ OwnI w' w.heap.size w'.heap.size u (digI n m) ∧ Below w.heap.size w w' := by
  have h1 := H.n1
  have h7 := H.n7
  have HP := Lib.hid H
  have HA : Hid (Calls Try.prog 59 #[v] w fun e w' => e = .returned (.bool true) ∧ w = w') := by
    have := areSizes_any v ss w hv (by have := H.ls; omega)
    rw [H.things] at this
    exact this
  have htot := pSum_rng (p := fun _ => true) H.s0 n
  have HS : Hid (Calls Try.prog 51 #[v] w fun e w' => e = .returned (.int .i64 (pSum ss (fun _ => true) n)) ∧ w = w') := by
    have := sum_any v ss w hv (n := n) (b := 12) ⟨H.ls, fun x hx => by have := H.sz x hx; omega⟩ (by omega) (by omega) (by omega)
    rw [sumP_all n (by have := H.ls; omega)] at this
    exact this
  have hH0 := HalfTo.start ss n (tot := pSum ss (fun _ => true) n) htot.1
  obtain ⟨tot, ht⟩ : ∃ t, t = pSum ss (fun _ => true) n := ⟨_, rfl⟩
  rw [← ht] at htot HS hH0 ⊢
  obtain ⟨b, off, cap, rfl, hc1, hc2, hb, SC⟩ := hv.seen hh H.ls h1
  have hsh := (shl_pow n (by omega)).1
  have h128 : 2 ^ n ≤ 128 := Nat.pow_le_pow_right (n := 2) (by decide) h7
  have hev : 2 ^ n = 2 * 2 ^ (n - 1) := by
    rw [show n = (n - 1) + 1 by omega, Nat.pow_succ]; simp; omega
  have hpos : 0 < 2 ^ (n - 1) := Nat.pow_pos (by decide)
  have HDG := Lib.hid (fun (m : Nat) (hm : m < 2 ^ n) (wx : World) => implDigits_any n m wx (by omega) hm)
  obtain ⟨N, hN⟩ : ∃ N, N = 2 ^ n := ⟨_, rfl⟩
  obtain ⟨N2, hN2⟩ : ∃ N, N = 2 ^ (n - 1) := ⟨_, rfl⟩
  have HNN := Lib.hid hN
  rw [← hN] at hsh h128 hev HDG
  rw [← hN2] at hev hpos
  have hNi : (2 : Int) ^ n = (N : Int) := by rw [hN]; simp
  have HH0 := Lib.hid hH0
  clear hv H ht hH0 hN hN2
  go_enter Try.func20, Try.ntmps20
  go_wp2_with fail
  refine HA.out.mono ?_
  rintro e w' ⟨rfl, rfl⟩
  go_wp2_with fail
  refine HS.out.mono ?_
  rintro e w' ⟨rfl, rfl⟩
  go_wp2_with fail
  go_loopw [6, 7, 8] (fun bv gv sv wr => ∃ (c m : Nat) (gap : Int), c ≤ N2 ∧ sv = .int .i64 ((2 * c : Nat) : Int) ∧ bv = .int .i64 (m : Int) ∧ gv = .int .i64 gap ∧ Hid (HalfTo ss n tot c m gap) ∧ Hid (Below w.heap.size w wr)) (fun _ _ sv _ => N - (intOf sv).toNat)
  case atStart => exact ⟨0, 0, tot, Nat.zero_le _, rfl, rfl, rfl, HH0, Below.refl _ _⟩
  case round =>
    clear HH0
    obtain ⟨c, m, gap, hc, rfl, rfl, rfl, HH, HB⟩ := hrel
    obtain ⟨w2, rfl⟩ : ∃ X, X = wr := ⟨_, rfl⟩
    have hs2 := HB.out.size
    by_cases hcn : c < N2
    · obtain ⟨q, hq⟩ : ∃ q, q = 2 * c := ⟨_, rfl⟩
      have hqN : q < N := by omega
      have hDG := HDG.out q hqN w2
      have hqi : ((2 * c : Nat) : Int) = (q : Int) := by omega
      have HQ := Lib.hid hq
      rw [hqi]
      clear hq hqi
      have hds := dig_sum ss q n
      have hdl := digI_len n q
      have hdm := (dig_pack q n).1
      have hle : Hid (∀ k, k < (digI n q).length → lSum ss ((digI n q).take (k + 1)) = lSum ss ((digI n q).take k) + ss.getD ((digI n q).getD k 0).toNat 0) := fun k hk => lSum_take ss _ hk
      have hrg := Lib.hid (fun D => lSum_rng HP.out.s0 D)
      obtain ⟨D, hD⟩ : ∃ D, D = digI n q := ⟨_, rfl⟩
      rw [← hD] at hDG hds hdl hdm hle
      have HDM := Lib.hid hdm
      have HDS := Lib.hid hds
      clear hD hdm hds
      go_wp2_with fail
      refine hDG.mono ?_
      rintro e w3 ⟨u, rfl, ho3, hb3⟩
      have HB3 := Lib.hid (HB.out.trans (hb3.mono hs2))
      obtain ⟨da, dc, rfl, dc1, dc2, dcase⟩ := ho3.rd.out
      have HDC := Lib.hid dcase
      clear ho3 hb3 hDG HB dcase
      go_wp2_with fail
      go_loopw [9, 29] (fun fv kv wr => ∃ (k : Nat) (half : Int), k ≤ D.length ∧ kv = .int .i64 k ∧ fv = .int .i64 half ∧ half = lSum ss (D.take k) ∧ wr = w3) (fun _ kv _ => D.length - (intOf kv).toNat)
      case atStart => exact ⟨0, 0, Nat.zero_le _, rfl, rfl, rfl, rfl⟩
      case round =>
        obtain ⟨k, half, hk, rfl, rfl, hhf, rfl⟩ := hrel
        have hrk := hrg.out (D.take k)
        rw [← hhf, List.length_take] at hrk
        by_cases hkl : k < D.length
        · have hnx := hle.out k hkl
          rw [← hhf] at hnx
          have hx := HDM.out _ (getD_mem hkl)
          obtain ⟨i, hi⟩ : ∃ i : Nat, D.getD k 0 = (i : Int) := ⟨(D.getD k 0).toNat, by omega⟩
          rw [hi] at hx hnx
          rw [Int.toNat_natCast] at hnx
          have hin : i < n := by omega
          rcases HDC.out with e | ⟨g, go, rfl, hg1, hg2, hg3, gcell⟩
          · exfalso; rw [e] at hkl; simp at hkl
          have ck := gcell k hkl
          rw [hi] at ck
          have cs := SC.out wr i HB3.out hin
          have b1 := HP.out.s0 i
          obtain ⟨x, hx'⟩ : ∃ x, x = ss.getD i 0 := ⟨_, rfl⟩
          rw [← hx'] at cs b1 hnx
          have HNX := Lib.hid hnx
          clear hx' hnx hi gcell hhf
          go_wp2
          go_roundw
          case rel => exact ⟨k + 1, half + x, by omega, by go_num, by go_num, HNX.out.symm, by trivial⟩
          case measure => (simp [intOf]; try omega)
        · obtain rfl : k = D.length := by omega
          rw [List.take_length, HDS.out] at hhf
          have HHF := Lib.hid hhf
          have hfar : max (tot - 2 * half) (2 * half - tot) = farOf tot half := rfl
          have hfr : -84 * 2 ≤ farOf tot half ∧ farOf tot half ≤ 84 * 3 := by unfold farOf; omega
          obtain ⟨f, hf⟩ : ∃ f, f = farOf tot half := ⟨_, rfl⟩
          rw [← hf] at hfar hfr
          have HFF : Hid (f = farOf tot (pSum ss (dgt (2 * c)) n)) := by rw [Hid, hf, HHF.out, HQ.out]
          clear hf hhf
          by_cases hlt : f < gap
          · have HH2 : Hid (HalfTo ss n tot (c + 1) q f) := by
              rw [HFF.out, HQ.out]
              exact HH.out.better (by have := HQ.out; have := HNN.out; omega) (by rw [← HFF.out]; exact hlt)
            have hq2 := HQ.out
            go_wp2
            go_roundw
            case rel => exact ⟨c + 1, q, f, by omega, by go_num, rfl, rfl, HH2, HB3⟩
            case measure => (simp [intOf]; try omega)
          · have HH2 : Hid (HalfTo ss n tot (c + 1) m gap) := HH.out.same (by rw [← HFF.out]; exact hlt)
            have hq2 := HQ.out
            go_wp2
            go_roundw
            case rel => exact ⟨c + 1, m, gap, by omega, by go_num, rfl, rfl, HH2, HB3⟩
            case measure => (simp [intOf]; try omega)
    · have hF := HH.out.done (by have := HNN.out; omega)
      have hm := hF.lt
      rw [← HNN.out] at hm
      have hDG := HDG.out m hm w2
      have HF := Lib.hid hF
      have zc : ¬ (((2 * c : Nat) : Int) < (N : Int)) := by omega
      obtain ⟨q, hq⟩ : ∃ q, q = 2 * c := ⟨_, rfl⟩
      rw [← hq] at zc ⊢
      have zc2 : ¬ (q < N) := by omega
      clear hF hq
      go_wp2_with fail
      refine hDG.mono ?_
      rintro e w3 ⟨u, rfl, ho3, hb3⟩
      have HO3 := Lib.hid ho3
      have HB3 := Lib.hid (HB.out.trans (hb3.mono hs2))
      clear ho3 hb3 hDG
      go_wp2
      go_ret3
      exact ⟨_, _, _, rfl, HF.out, HO3.out.mono hs2 (Nat.le_refl _) (Nat.le_refl _), HB3.out⟩
end Go.Proofs.Ytkankfdpodofjaa
