/-
  The ways that the reference draws (R8Ways), choices by bytes (r8At), the test of length (r8Long): contracts.
-/
import Derived.Test.YtkankfdpodofjaaSrc
import Derived.Test.YtkankfdpodofjaaRaiseI
namespace Go.Proofs.Ytkankfdpodofjaa
open Go.RowKit
set_option linter.unusedVariables false
set_option maxRecDepth 100000

/-- the number that some bytes choose -/
def at8 (bs : List Int) (i n : Int) : Int := if n ≤ 1 then 0 else if i < (bs.length : Int) then bs.getD i.toNat 0 % n else 0
theorem at8_rng (bs : List Int) (i n : Int) (hn : 1 ≤ n) : 0 ≤ at8 bs i n ∧ at8 bs i n < n := by
  unfold at8
  split
  · omega
  · split
    · exact ⟨Int.emod_nonneg _ (by omega), Int.emod_lt_of_pos _ (by omega)⟩
    · omega
set_option maxHeartbeats 800000 in
set_option maxRecDepth 100000 in
theorem r8At_any {l h : Nat} (v : Value) (bs : List Int) (i : Nat) (n : Int) (w : World) (hv : Byts w l h v bs) (hi : i ≤ 4294967296) (hn : 0 ≤ n) (hn2 : n ≤ 4294967296) :
    Calls Try.prog 8 #[v, .int .i64 i, .int .i64 n] w fun e w' => e = .returned (.int .i64 (at8 bs i n)) ∧ w = w' := by
  obtain ⟨a, cap, rfl, hc1, hc2, hd⟩ := hv.out
  by_cases h1 : n ≤ 1
  · have HE : Hid (at8 bs i n = 0) := by unfold Hid at8; rw [if_pos h1]
    clear hv hd
    go_enter Try.func8, Try.ntmps8
    go_wp2
    go_ret
    exact ⟨by rw [HE.out]; rfl, rfl⟩
  · have hn0 : n ≠ 0 := by omega
    have hn1 : n ≠ -1 := by omega
    by_cases h2 : i < bs.length
    · rcases hd with hd | ⟨b, off, rfl, hb1, hb2, hb3, hcell⟩
      · rw [hd] at h2; simp at h2
      have hck := hcell i h2
      have hby := hv.byte h2
      obtain ⟨y, hy⟩ : ∃ y, y = bs.getD i 0 := ⟨_, rfl⟩
      rw [← hy] at hck hby
      have HE : Hid (at8 bs i n = y % n) := by unfold Hid at8; rw [if_neg h1, if_pos (by omega), Int.toNat_natCast, hy]
      have e1 : y.tmod n = y % n := Int.tmod_eq_emod_of_nonneg hby.1
      have hr0 : 0 ≤ y % n := Int.emod_nonneg _ hn0
      have hr1 : y % n < n := Int.emod_lt_of_pos _ (by omega)
      obtain ⟨z, hz⟩ : ∃ z, y % n = z := ⟨_, rfl⟩
      rw [hz] at e1 hr0 hr1
      have HZ := Lib.hid hz
      clear hv hcell hy hz
      go_enter Try.func8, Try.ntmps8
      go_wp2_with fail
      go_ret
      exact ⟨by rw [HE.out, HZ.out]; rfl, rfl⟩
    · have HE : Hid (at8 bs i n = 0) := by unfold Hid at8; rw [if_neg h1, if_neg (by omega)]
      clear hv hd
      go_enter Try.func8, Try.ntmps8
      go_wp2_with fail
      go_ret
      exact ⟨by rw [HE.out]; rfl, rfl⟩
def long8 (xs ys : List Int) : Bool := decide (48 < (xs.length : Int)) || decide (48 < (ys.length : Int))
theorem long8_no {xs ys : List Int} (h : long8 xs ys = false) : xs.length ≤ 48 ∧ ys.length ≤ 48 := by
  unfold long8 at h
  rw [Bool.or_eq_false_iff, decide_eq_false_iff_not, decide_eq_false_iff_not] at h
  omega
theorem r8Long_any {l h l' h' : Nat} (v u : Value) (xs ys : List Int) (w : World) (hv : Byts w l h v xs) (hu : Byts w l' h' u ys) :
    Calls Try.prog 7 #[v, u] w fun e w' => e = .returned (.bool (long8 xs ys)) ∧ w = w' := by
  obtain ⟨a, cap, rfl, hc1, hc2, hd⟩ := hv.out
  obtain ⟨a', cap', rfl, hc1', hc2', hd'⟩ := hu.out
  clear hv hd hu hd'
  unfold long8
  by_cases h1 : 48 < (xs.length : Int)
  · rw [decide_eq_true h1, Bool.true_or]
    go_enter Try.func7, Try.ntmps7
    go_wp2
    go_ret
    exact ⟨rfl, rfl⟩
  · rw [decide_eq_false h1, Bool.false_or]
    have h1' : decide (48 < (xs.length : Int)) = false := decide_eq_false h1
    by_cases h2 : 48 < (ys.length : Int)
    · rw [decide_eq_true h2]
      have h2' : decide (48 < (ys.length : Int)) = true := decide_eq_true h2
      go_enter Try.func7, Try.ntmps7
      go_wp2
      go_ret
      refine ⟨?_, rfl⟩
      first | rfl | (simp [h1', h2'])
    · rw [decide_eq_false h2]
      have h2' : decide (48 < (ys.length : Int)) = false := decide_eq_false h2
      go_enter Try.func7, Try.ntmps7
      go_wp2
      go_ret
      refine ⟨?_, rfl⟩
      first | rfl | (simp [h1', h2'])
/-! ### Ways that are drawn -/
structure DrW (zs : List Int) (n : Nat) : Prop where
  len : zs.length = n * n
  rng : ∀ x ∈ zs, 0 ≤ x ∧ x ≤ 30
  sym : ∀ a b, a < n → b < n → zs.getD (a * n + b) 0 = zs.getD (b * n + a) 0
  dia : ∀ a, a < n → zs.getD (a * n + a) 0 = 0
theorem pos_inj {n a b i k : Nat} (hb : b < n) (hk : k < n) (h : a * n + b = i * n + k) : a = i ∧ b = k := by
  have h1 := now_divmod (i := a) hb
  have h2 := now_divmod (i := i) hk
  rw [h] at h1
  exact ⟨h1.1.symm.trans h2.1, h1.2.symm.trans h2.2⟩
theorem rep_getD0 (n i : Nat) : (List.replicate n (0 : Int)).getD i 0 = 0 := by
  simp only [List.getD, List.getElem?_replicate]
  split <;> rfl
theorem DrW.start (n : Nat) : DrW (List.replicate (n * n) 0) n := ⟨by simp, fun x hx => by rw [List.eq_of_mem_replicate hx]; omega, fun a b _ _ => by rw [rep_getD0, rep_getD0], fun a _ => rep_getD0 _ _⟩
theorem setD (zs : List Int) (p q : Nat) (x : Int) (hq : p < zs.length) : (zs.set p x).getD q 0 = if q = p then x else zs.getD q 0 := by
  simp only [List.getD, List.getElem?_set]
  by_cases h : p = q
  · subst h; simp [hq]
  · rw [if_neg h, if_neg (fun e => h e.symm)]
theorem DrW.put {zs : List Int} {n : Nat} (h : DrW zs n) {i k : Nat} (hi : i < n) (hk : k < i) {x : Int} (h0 : 0 ≤ x) (h1 : x ≤ 30) : DrW ((zs.set (i * n + k) x).set (k * n + i) x) n := by
  have p1 := pos_lt hi (show k < n by omega)
  have p2 := pos_lt (show k < n by omega) hi
  have hl := h.len
  have hg : ∀ q, ((zs.set (i * n + k) x).set (k * n + i) x).getD q 0 = if q = k * n + i then x else if q = i * n + k then x else zs.getD q 0 := fun q => by
    rw [setD _ _ _ _ (by rw [List.length_set]; omega), setD _ _ _ _ (by omega)]
  refine ⟨by simp [hl], fun y hy => ?_, fun a b ha hb => ?_, fun a ha => ?_⟩
  · rcases List.mem_or_eq_of_mem_set hy with hy | rfl
    · rcases List.mem_or_eq_of_mem_set hy with hy | rfl
      · exact h.rng y hy
      · exact ⟨h0, h1⟩
    · exact ⟨h0, h1⟩
  · rw [hg, hg]
    have s := h.sym a b ha hb
    by_cases e1 : a * n + b = k * n + i
    · obtain ⟨rfl, rfl⟩ := pos_inj hb hi e1
      rw [if_pos rfl]
      by_cases e2 : b * n + a = a * n + b
      · rw [if_pos e2]
      · rw [if_neg e2, if_pos rfl]
    · rw [if_neg e1]
      by_cases e2 : a * n + b = i * n + k
      · obtain ⟨rfl, rfl⟩ := pos_inj hb (by omega) e2
        rw [if_pos rfl, if_pos rfl]
      · rw [if_neg e2]
        have e3 : b * n + a ≠ k * n + i := fun e => by
          obtain ⟨rfl, rfl⟩ := pos_inj ha hi e
          exact e2 rfl
        have e4 : b * n + a ≠ i * n + k := fun e => by
          obtain ⟨rfl, rfl⟩ := pos_inj ha (show k < n by omega) e
          exact e1 rfl
        rw [if_neg e3, if_neg e4]; exact s
  · rw [hg, if_neg (fun e => by have := pos_inj ha hi e; omega), if_neg (fun e => by have := pos_inj ha (show k < n by omega) e; omega)]
    exact h.dia a ha
theorem DrW.cit {zs : List Int} {n : Nat} (h : DrW zs n) (h1 : 1 ≤ n) (h2 : n ≤ 10) : isCit zs = true ∧ root zs.length = n := by
  have hr : root zs.length = n := root_eq h1 h2 h.len.symm
  refine ⟨?_, hr⟩
  unfold isCit
  rw [hr]
  have : symW zs n = true := symW_iff.2 fun i k hi hk => by
    unfold okP
    rw [h.sym i k hi hk]
    by_cases e : i = k
    · subst e; rw [h.dia i hi]; simp
    · simp [e]
  rw [this, List.all_eq_true.2 fun x hx => (inB_iff ..).2 (by have := h.rng x hx; omega)]
  simp; omega
theorem Same.setNew {lo hi : Nat} {a w : World} (h : Same lo hi a w) {p : Addr} (hp : a.heap.size ≤ p.block) (u : Value) : Same lo hi a (w.setCell p u) :=
  ⟨h.os, h.tape, h.output, by have := h.size; simp [World.setCell]; exact this, fun k hk hn => (Below.heap_setCell _ _ _ _ (by omega)).trans (h.block k hk hn)⟩
theorem SrcC.setNew {w : World} {q n : Nat} (h : SrcC w q n) {g : Nat} (hg : q < g) (o : Nat) (u : Value) : SrcC (w.setCell ⟨g, o, none⟩ u) q n := h.below ((Below.refl g w).setCell (p := ⟨g, o, none⟩) (Nat.le_refl _) u) hg
set_option maxHeartbeats 2000000 in
set_option maxRecDepth 100000 in
theorem l04DrawOk_any {q n : Nat} (w : World) (hq : SrcC w q 0) (h1 : 1 ≤ n) (h2 : n ≤ 10) :
    Calls Try.prog 42 #[.pointer (some ⟨q, 0, none⟩), .int .i64 n] w fun e w' => ∃ g zs, e = .returned (.slice (some ⟨g, 0, none⟩) (n * n) (n * n)) ∧ RowI w' w.heap.size g (n * n) (n * n) zs ∧ DrW zs n ∧ Same q (q + 1) w w' := by
  obtain ⟨N, hN⟩ : ∃ N, N = n * n := ⟨_, rfl⟩
  have hN1 : N ≤ 100 := by rw [hN]; exact prod_le h2 h2
  have hp0 : (n : Int) * (n : Int) = (N : Int) := by rw [prod_nat, ← hN]
  have hw0 := wrap_nat (q := N) (by omega)
  have HM := raise_made N (by omega)
  obtain ⟨W, hW⟩ : ∃ X, X = w.alloc (.cells (madeCells #[Value.int .i64 0] N) 2) := ⟨_, rfl⟩
  obtain ⟨g, hg⟩ : ∃ b, b = w.heap.size := ⟨_, rfl⟩
  have hql := hq.lt
  have HR0 : Hid (RowI W w.heap.size g N N (List.replicate N 0)) := by rw [hW, hg]; exact raise_row w N (by omega)
  have HS0 : Hid (Same q (q + 1) w W) := by rw [hW]; exact (Same.refl _ _ _).alloc _
  have HQ0 : Hid (SrcC W q 0) := by rw [hW]; exact hq.alloc _
  have HD0 : Hid (DrW (List.replicate N 0) n) := by rw [hN]; exact DrW.start n
  have hgw : w.heap.size ≤ g := by omega
  have hqg : q < g := by omega
  have HN := Lib.hid hN
  rw [← hN]
  clear hq hN
  go_enter Try.func42, Try.ntmps42
  go_wp2_with fail
  rw [← hW, ← hg]
  clear hW hg HM hp0 hw0
  go_loopw [6] (fun iv wr => ∃ (i : Nat) (zs : List Int), i ≤ n ∧ iv = .int .i64 i ∧ Hid (RowI wr w.heap.size g N N zs) ∧ Hid (DrW zs n) ∧ Hid (SrcC wr q (n * i)) ∧ Hid (Same q (q + 1) w wr)) (fun iv _ => n - (intOf iv).toNat)
  case atStart => exact ⟨0, _, Nat.zero_le _, rfl, HR0, HD0, HQ0, HS0⟩
  case round =>
    obtain ⟨i, zs, hi, rfl, HR, HD, HQ, HS⟩ := hrel
    by_cases hin : i < n
    · obtain ⟨wo, hwo⟩ : ∃ wo : World, wo = wr := ⟨_, rfl⟩
      rw [← hwo] at HR HQ HS
      rw [← hwo]
      clear hwo HR0 HS0 HQ0 HD0
      have hni : n * i ≤ 100 := prod_le h2 (by omega)
      obtain ⟨c, hc⟩ : ∃ c, c = n * i := ⟨_, rfl⟩
      have hc2 : n * (i + 1) = c + n := by rw [hc, Nat.mul_add, Nat.mul_one]
      have HC2 := Lib.hid hc2
      rw [← hc] at HQ hni
      clear hc hc2
      go_wp2_with fail
      go_loopw [7] (fun kv wr => ∃ (k : Nat) (zs : List Int), k ≤ i ∧ kv = .int .i64 k ∧ Hid (RowI wr w.heap.size g N N zs) ∧ Hid (DrW zs n) ∧ Hid (SrcC wr q (c + k)) ∧ Hid (Same q (q + 1) w wr)) (fun kv _ => i - (intOf kv).toNat)
      case atStart => exact ⟨0, zs, Nat.zero_le _, rfl, HR, HD, HQ, HS⟩
      case round =>
        clear HR HD HQ HS
        obtain ⟨k, zs, hk, rfl, HR, HD, HQ, HS⟩ := hrel
        by_cases hki : k < i
        · have hqq := pos_lt (n := n) (i := i) (k := k) hin (by omega)
          have hpp := pos_lt (n := n) (i := k) (k := i) (by omega) hin
          rw [← HN.out] at hqq hpp
          have hp1 := prod_nat i n
          have hp2 := prod_nat k n
          have hq1 := prod_le (i := i) (n := n) (by omega) h2
          have hq2 := prod_le (i := k) (n := n) (by omega) h2
          have HPUT : Hid (∀ x : Int, 0 ≤ x → x ≤ 30 → DrW ((zs.set (i * n + k) x).set (k * n + i) x) n) := fun x x0 x1 => HD.out.put hin hki x0 x1
          obtain ⟨a, ha⟩ : ∃ a, a = i * n := ⟨_, rfl⟩
          obtain ⟨b, hb⟩ : ∃ b, b = k * n := ⟨_, rfl⟩
          rw [← ha] at hqq hp1 hq1 HPUT
          rw [← hb] at hpp hp2 hq2 HPUT
          clear ha hb
          have z1 : (a : Int) + (k : Int) < (N : Int) := by omega
          have z2 : (b : Int) + (i : Int) < (N : Int) := by omega
          have z3 : (0 : Int) ≤ (a : Int) + (k : Int) := by omega
          have z4 : (0 : Int) ≤ (b : Int) + (i : Int) := by omega
          go_wp2_with fail
          refine (srcPick_any 30 wr HQ.out (by omega) (by decide) (by decide)).mono ?_
          rintro e w2 ⟨x, rfl, ⟨hx0, hx1⟩, hs2, hm2⟩
          have hz2 := hm2.size
          have hR2 : RowI w2 w.heap.size g N N zs := HR.out.keep (hm2.block g HR.out.lt (by omega))
          have HR2 := Lib.hid hR2
          have HS2 := Lib.hid (HS.out.trans hm2)
          have HQ2 := Lib.hid hs2
          have v0 : IntKind.i64.wrap (1 + x) = 1 + x := IntWalk.i64_in _ (by omega)
          have hcell1 := hR2.cell (k := a + k) (by omega)
          have hfro1 := hR2.frozen (a + k)
          clear hs2 hm2 hR2
          have v1 := wrap_sum (q := a) (k := k) (by omega) (by omega)
          have v2 := wrap_nat (q := a) (by omega)
          have v3 := wrap_nat (q := b) (by omega)
          have v4 := wrap_sum (q := b) (k := i) (by omega) (by omega)
          go_upto_region 10 with (fail)
          obtain ⟨W3, hW3⟩ : ∃ X, X = w2.setCell ⟨g, a + k, none⟩ (.int .i64 (1 + x)) := ⟨_, rfl⟩
          rw [← hW3]
          have hR3 : RowI W3 w.heap.size g N N (zs.set (a + k) (1 + x)) := by rw [hW3]; exact HR2.out.stored _ _
          have HR3 := Lib.hid hR3
          have HS3 : Hid (Same q (q + 1) w W3) := by rw [hW3]; exact HS2.out.setNew hgw _
          have HQ3 : Hid (SrcC W3 q (c + k + 1)) := by rw [hW3]; exact HQ2.out.setNew hqg _ _
          have hcell2 := hR3.cell (k := b + i) (by omega)
          have hfro2 := hR3.frozen (b + i)
          clear hW3 hR3 hcell1 hfro1
          go_wp2
          go_roundw
          case rel => exact ⟨k + 1, (zs.set (a + k) (1 + x)).set (b + i) (1 + x), by omega, by go_num, HR3.out.stored _ _, HPUT.out _ (by omega) (by omega), HQ3.out.setNew hqg _ _, HS3.out.setNew hgw _⟩
          case measure => simp [intOf]; omega
        · obtain rfl : k = i := by omega
          go_wp2
          go_roundw
          case rel => exact ⟨k + 1, zs, by omega, by go_num, HR, HD, by rw [HC2.out]; exact HQ.out.mono (by omega), HS⟩
          case measure => simp [intOf]; omega
    · obtain rfl : i = n := by omega
      go_wp2
      go_ret
      exact ⟨g, zs, rfl, HR.out, HD.out, HS.out⟩
theorem R8Ways_any {l h n : Nat} (v : Value) (bs : List Int) (w : World) (hv : Byts w l h v bs) (hh : h ≤ w.heap.size) (h1 : 1 ≤ n) (h2 : n ≤ 10) :
    Calls Try.prog 9 #[v, .int .i64 n] w fun e w' => ∃ u zs, e = .returned u ∧ OwnI w' w.heap.size w'.heap.size u zs ∧ DrW zs n ∧ Below w.heap.size w w' := by
  have HF := Lib.hid (l00From_any v bs w hv hh)
  clear hv
  go_enter Try.func9, Try.ntmps9
  go_wp2_with fail
  refine HF.out.mono ?_
  rintro e w2 ⟨rfl, hs, hb⟩
  have HD := Lib.hid (l04DrawOk_any (n := n) w2 hs h1 h2)
  have HB := Lib.hid hb
  have hz := hb.size
  clear hs hb
  go_wp2_with fail
  refine HD.out.mono ?_
  rintro e w3 ⟨g, zs, rfl, hr, hd, hs3⟩
  have HR := Lib.hid hr
  have HDR := Lib.hid hd
  have HB3 := Lib.hid (HB.out.trans (hs3.below (Nat.le_refl _) hz))
  have hN1 : n * n ≤ 100 := prod_le h2 h2
  clear hr hd hs3
  go_wp2
  go_ret
  exact ⟨_, zs, rfl, (HR.out.own (fun y hy => by have := HDR.out.rng y hy; constructor <;> omega) (by omega) HR.out.lt (Nat.le_refl _)).mono hz (Nat.le_refl _) (Nat.le_refl _), HDR.out, HB3.out⟩
end Go.Proofs.Ytkankfdpodofjaa
