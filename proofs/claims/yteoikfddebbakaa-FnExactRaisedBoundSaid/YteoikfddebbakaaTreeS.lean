/-
  The least tree of cities and the bound: the reference's contracts.
-/
import Derived.Test.YteoikfddebbakaaBoundI
import Derived.Test.YteoikfddebbakaaStepI
import Derived.Test.YteoikfddebbakaaBool
import Derived.Deep.RegionLaw
namespace Go.Proofs.Yteoikfddebbakaa
open Go.RowKit
set_option linter.unusedVariables false
set_option maxRecDepth 100000

def bst (n : Nat) (a b : Int) : Int := if a < 0 then -1 else a * n + b
theorem bst_nat (n i k : Nat) : bst n (i : Int) (k : Int) = ((i * n + k : Nat) : Int) := by
  rw [bst, if_neg (by omega)]; simp
theorem bst_div {n i k : Nat} (hk : k < n) : (((i * n + k : Nat) : Int).tdiv n = i) ∧ (((i * n + k : Nat) : Int).tmod n = k) := by
  have h1 : (i * n + k) / n = i := by rw [Nat.add_comm, Nat.add_mul_div_right _ _ (by omega), Nat.div_eq_of_lt hk, Nat.zero_add]
  have h2 : (i * n + k) % n = k := by rw [Nat.add_comm, Nat.add_mul_mod_self_right, Nat.mod_eq_of_lt hk]
  exact ⟨by rw [Int.tdiv_eq_ediv_of_nonneg (by omega), ← Int.natCast_ediv, h1], by rw [Int.tmod_eq_emod_of_nonneg (by omega), ← Int.natCast_emod, h2]⟩
theorem alloc_belowT (w : World) (o : Obj) : Below w.heap.size w (w.alloc o) := (Below.refl _ _).alloc (Nat.le_refl _) o
theorem ints_new2 (w : World) (x y : Int) (e : TypeId) (hx : I64 x) (hy : I64 y) : Ints (w.alloc (.cells #[.int .i64 x, .int .i64 y] e)).drew w.heap.size (w.heap.size + 1) (.slice (some ⟨w.heap.size, 0, none⟩) 2 2) [x, y] := by
  refine Ints.drew ⟨⟨some ⟨w.heap.size, 0, none⟩, 2, rfl, by simp, by omega, .inr ⟨w.heap.size, 0, rfl, Nat.le_refl _, by omega, by simp, fun i hi => ?_⟩⟩, by simp; exact ⟨hx, hy⟩⟩ ⟨1, rfl⟩
  have : i = 0 ∨ i = 1 := by simp at hi; omega
  rcases this with rfl | rfl
  · exact cell_new_at w #[.int .i64 x, .int .i64 y] e 0 (by simp)
  · exact cell_new_at w #[.int .i64 x, .int .i64 y] e 1 (by simp)
theorem RowB.same {w w' : World} {lo g n cap l h : Nat} {zs : List Bool} (hr : RowB w lo g n cap zs) (hs : Same l h w w') (hg : g < l) : RowB w' lo g n cap zs := hr.keep (hs.block g hr.lt (by omega))
theorem setB_getD (L : List Bool) (m : Nat) (x : Bool) (hm : m < L.length) (q : Nat) : (L.set m x).getD q false = if m = q then x else L.getD q false := by
  simp only [List.getD, List.getElem?_set]
  split
  · rename_i e; rfl
  · rfl
theorem hasI_snoc (S : List Int) (x y : Int) : hasI (S ++ [x]) y = (hasI S y || (x == y)) := by
  rw [Bool.eq_iff_iff, hasI_iff, Bool.or_eq_true, hasI_iff, List.mem_append, List.mem_singleton, beq_iff_eq]
  exact ⟨fun h => h.imp id Eq.symm, fun h => h.imp id Eq.symm⟩
theorem OwnI.setOther2 {w : World} {lo hi : Nat} {v : Value} {zs : List Int} (h : OwnI w lo hi v zs) (p : Addr) (u : Value) (hne : ∀ k, v.ownBlock = some k → k ≠ p.block) : OwnI (w.setCell p u) lo (w.setCell p u).heap.size v zs := by
  have hz : (w.setCell p u).heap.size = w.heap.size := by simp [World.setCell]
  refine (h.stay2 (by omega) fun k hk => Below.heap_setCell _ _ _ _ (hne k hk)).mono (Nat.le_refl _) ?_ (Nat.le_refl _)
  rw [hz]; exact h.own.hsz
set_option maxHeartbeats 4000000 in
set_option maxRecDepth 100000 in
theorem l04Tree_any {l h : Nat} (v : Value) (ws : List Int) (n f : Nat) (w : World) (hv : Ints w l h v ws) (hh : h ≤ w.heap.size) (hl : n * n = ws.length) (hf : f < n) (hn : n ≤ 10) (hr : WayRng (wayOf ws n) n) :
    Calls Try.prog 100 #[v, .int .i64 n, .int .i64 f] w fun e w' => ∃ u, e = .returned (.tuple #[u, .int .i64 (treeOf (wayOf ws n) f (n - f)).2]) ∧ OwnI w' w.heap.size w'.heap.size u (treeOf (wayOf ws n) f (n - f)).1 ∧ Below w.heap.size w w' := by
  obtain ⟨va, vc, rfl, hc1, hc2, hd⟩ := hv.out
  have hll : ws.length ≤ 100 := by rw [← hl]; exact prod_le hn hn
  rcases hd with hd | ⟨b, off, rfl, hb1, hb2, hb3, hcell⟩
  · exfalso
    rw [hd] at hl
    have := Nat.mul_pos (show 0 < n by omega) (show 0 < n by omega)
    simp at hl; omega
  have HW := Lib.hid (fun (i k : Nat) => wayOf_nat ws n i k)
  have HCELL : Hid (∀ (wx : World) (i k : Nat), Below w.heap.size w wx → i < n → k < n → wx.cell? ⟨b, off + (i * n + k), none⟩ = some (.int .i64 (wayOf ws n (i : Int) (k : Int)))) := fun wx i k hb hi hk => by
    rw [hb.cell (p := ⟨b, off + (i * n + k), none⟩) (show b < w.heap.size by omega), wayOf_nat]
    exact hcell _ (by have := pos_lt hi hk; omega)
  have HPOS : Hid (∀ i k : Nat, i < n → k < n → i * n + k < ws.length) := fun i k hi hk => by have := pos_lt hi hk; omega
  have HR := Lib.hid hr
  obtain ⟨W, hW⟩ : ∃ W, W = wayOf ws n := ⟨_, rfl⟩
  rw [← hW] at HW HCELL HR ⊢
  obtain ⟨L, hL⟩ : ∃ L, L = ws.length := ⟨_, rfl⟩
  rw [← hL] at HPOS hll hc1 ⊢
  obtain ⟨N, hN⟩ : ∃ N, N = n - f := ⟨_, rfl⟩
  have HTR : Hid (treeOf W f (n - f) = treeGo W f N (N - 1) [(f : Int)] [] 0) := by rw [Hid, hN]; rfl
  have hN1 : 1 ≤ N := by omega
  have hnf2 : n ≤ N + f := by omega
  have hnf3 : N + f ≤ n := by omega
  have hmm : n ≤ maxLen := by unfold maxLen; omega
  obtain ⟨i0, hi, hz0, hz1, hz2⟩ := info_parts info_bool
  clear hr hv hcell hW hl hL hN HW
  go_enter Try.func100, Try.ntmps100
  go_wp2_with (refine wpList_make_full _ rfl _ _ 114 rfl w.heap.size 4 i0 (.bool false) 1 Try.underlying114 hi hz0 hz1 .i64 .i64 _ _ n rfl rfl rfl rfl ?c1 hmm ?c2 ?_)
  case c1 => rw [hz2]; omega
  case c2 => exact Nat.le_refl _
  intro w1 hown hg
  have hrow1 := RowB.made hown
  have hb1' : Below w.heap.size w w1 := (Below.refl _ _).grown hg (Nat.le_refl _) (fun k hk => by cases hk)
  have HROW1 := Lib.hid hrow1
  have HB1 := Lib.hid hb1'
  have hg1 := hrow1.lt
  have hfz := hrow1.frozen f
  have hce := hrow1.cell hf
  rw [replicate_getD] at hce
  clear hown hg hrow1 hb1' hi hz0 hz1 hz2 hmm
  go_wp2_with fail
  obtain ⟨w2, hw2⟩ : ∃ w2, w2 = w1.setCell ⟨w.heap.size, f, none⟩ (.bool true) := ⟨_, rfl⟩
  have hs2 : w2.heap.size = w1.heap.size := by rw [hw2]; simp [World.setCell]
  have HROW2 : Hid (RowB w2 w.heap.size w.heap.size n n ((List.replicate n false).set f true)) := by rw [hw2]; exact HROW1.out.stored f true
  have HB2 : Hid (Below w.heap.size w w2) := by rw [hw2]; exact HB1.out.setCell (Nat.le_refl _) _
  have HE2 := Lib.hid (emptySlice w2)
  have HW2 := Lib.hid hw2
  have HSZ := Lib.hid hs2
  have hs2' : w.heap.size < w2.heap.size := by omega
  have HL0 : Hid (∀ j : Nat, j < n → ((List.replicate n false).set f true).getD j false = hasI [(f : Int)] (j : Int)) := fun j hj => by
    rw [setB_getD _ _ _ (by simpa using hf), replicate_getD]
    by_cases e : f = j
    · rw [if_pos e, e]; simp [hasI]
    · rw [if_neg e]
      have : ((f : Int) == (j : Int)) = false := by simp; omega
      simp [hasI, this]
  rw [← HW2.out]
  clear hfz hce HROW1 HB1 hs2 hw2 hg1 HW2
  go_wp2_with fail
  go_loopw [9, 10, 11] (fun ev tv cv wr => ∃ (m : Nat) (S E : List Int) (t : Int) (BL : List Bool) (c : Nat), m + S.length = N ∧ 1 ≤ S.length ∧ c = f + S.length ∧ cv = .int .i64 c ∧ tv = .int .i64 t ∧ -10000000 * (S.length : Int) ≤ t ∧ t ≤ 10000000 * (S.length : Int) ∧ E.length ≤ 2 * S.length ∧ Hid (treeGo W f N m S E t = treeOf W f (n - f)) ∧ Hid (RowB wr w.heap.size w.heap.size n n BL) ∧ Hid (∀ j : Nat, j < n → BL.getD j false = hasI S (j : Int)) ∧ Hid (OwnI wr w2.heap.size wr.heap.size ev E) ∧ Hid (Below w.heap.size w wr) ∧ Hid ((f : Int) ∈ S) ∧ w2.heap.size ≤ wr.heap.size) (fun _ _ cv _ => n - (intOf cv).toNat)
  case atStart =>
    refine ⟨N - 1, [(f : Int)], [], 0, _, f + 1, by simp; omega, by simp, by simp, by go_num, rfl, by simp, by simp, by simp, HTR.out.symm, ?_, HL0, ?_, HB2.out.alloc (by omega) _, by simp [Hid], by simp⟩
    · rw [Hid]; exact HROW2.out.alloc _
    · rw [Hid, ← HSZ.out]; have := HE2.out; simpa using this
  case round =>
    clear HTR HROW2 HB2 HE2 HL0
    obtain ⟨m, S, E, t, BL, c, hmS, hS1, hcf, rfl, rfl, ht1, ht2, hEl, HG, HROW, HBL, HE, HB, HFS, hwz⟩ := hrel
    have hsr := HB.out.size
    obtain ⟨s, hs⟩ : ∃ s, s = S.length := ⟨_, rfl⟩
    have HSL := Lib.hid hs
    rw [← hs] at hmS hS1 ht1 ht2 hEl hcf
    clear hs
    by_cases hm0 : 0 < m
    · have hcn : c < n := by omega
      obtain ⟨m', rfl⟩ : ∃ m', m = m' + 1 := ⟨m - 1, by omega⟩
      have HPK := Lib.hid (pick_ok W S f N (by omega) ⟨f, by omega, by omega, HFS.out⟩ (by have := HSL.out; omega))
      have HG2 : Hid (treeGo W f N m' (S ++ [(pick W S f N).2]) (E ++ [(pick W S f N).1, (pick W S f N).2]) (t + W (pick W S f N).1 (pick W S f N).2) = treeOf W f (n - f)) := by rw [Hid, ← HG.out, treeGo]
      obtain ⟨PA, hPA⟩ : ∃ p, p = (pick W S f N).1 := ⟨_, rfl⟩
      obtain ⟨PB, hPB⟩ : ∃ p, p = (pick W S f N).2 := ⟨_, rfl⟩
      have HPA : Hid (pick W S f N = (PA, PB)) := by rw [Hid, hPA, hPB]
      rw [← hPA, ← hPB] at HPK HG2
      have HCF := Lib.hid hcf
      clear hPA hPB HG hcf
      obtain ⟨wo, hwo⟩ : ∃ wo : World, wo = wr := ⟨_, rfl⟩
      rw [← hwo] at HROW HE HB hsr hwz ⊢
      clear hwo
      go_wp2_with fail
      go_loopw [12, 13] (fun rv iv wr => ∃ (i : Nat) (a b r : Int), f ≤ i ∧ i ≤ n ∧ iv = .int .i64 i ∧ rv = .int .i64 r ∧ Hid (r = bst n a b) ∧ Hid (pairGo W S f N (n - i) i (a, b) = (PA, PB)) ∧ Hid (EdgeOk S f N (a, b)) ∧ Hid (Drew wo wr)) (fun _ iv _ => n - (intOf iv).toNat)
      case atStart => exact ⟨f, -1, -1, -1, Nat.le_refl _, by omega, rfl, rfl, rfl, by rw [Hid, ← HPA.out, pick]; congr 1; omega, .inl rfl, Drew.refl _⟩
      case round =>
        obtain ⟨i, a, b', r, hi1, hi2, rfl, rfl, HRB, HP, HEO, HD⟩ := hrel
        by_cases hin : i < n
        · have HP2 : Hid (pairGo W S f N (n - (i + 1)) ((i : Int) + 1) (if hasI S i then rowGo W S i N f (a, b') else (a, b')) = (PA, PB)) := by rw [Hid, ← HP.out, show n - i = (n - (i + 1)) + 1 by omega, pairGo]
          have HBI := Lib.hid (HBL.out i hin)
          obtain ⟨wp, hwp⟩ : ∃ wp : World, wp = wr := ⟨_, rfl⟩
          rw [← hwp] at HD ⊢
          clear hwp
          cases hhi : hasI S (i : Int)
          · rw [hhi] at HP2 HBI
            clear hhi HP
            go_wp2_with fail
            go_loopw [12, 14] (fun rv kv wr => ∃ (k : Nat), f ≤ k ∧ k ≤ n ∧ kv = .int .i64 k ∧ rv = .int .i64 r ∧ Hid (Drew wo wr)) (fun _ kv _ => n - (intOf kv).toNat)
            case atStart => exact ⟨f, Nat.le_refl _, by omega, rfl, rfl, HD⟩
            case round =>
              clear HD
              obtain ⟨k, hk1, hk2, rfl, rfl, HD⟩ := hrel
              by_cases hkn : k < n
              · have ci := (HROW.out.drew HD.out).cell hin
                rw [HBI.out] at ci
                go_wp2_with fail
                go_quiet (fail)
                go_wp2
                go_roundw
                case rel => exact ⟨k + 1, by omega, by omega, by go_num, rfl, HD.out.step _⟩
                case measure => (simp [intOf]; try omega)
              · obtain rfl : k = n := by omega
                go_wp2
                go_roundw
                case rel => exact ⟨i + 1, a, b', r, by omega, by omega, by go_num, rfl, HRB, HP2.out, HEO, HD⟩
                case measure => (simp [intOf]; try omega)
          · rw [hhi] at HP2 HBI
            have HIS := Lib.hid ((hasI_iff S i).1 hhi)
            obtain ⟨RES, hRES⟩ : ∃ r, r = rowGo W S i N f (a, b') := ⟨_, rfl⟩
            have HP3 : Hid (pairGo W S f N (n - (i + 1)) ((i : Int) + 1) RES = (PA, PB)) := by rw [Hid, hRES]; exact HP2.out
            have HRES := Lib.hid hRES
            clear hhi HP HP2 hRES
            go_wp2_with fail
            go_loopw [12, 14] (fun rv kv wr => ∃ (k : Nat) (a b r : Int), f ≤ k ∧ k ≤ n ∧ kv = .int .i64 k ∧ rv = .int .i64 r ∧ Hid (r = bst n a b) ∧ Hid (rowGo W S i (n - k) k (a, b) = RES) ∧ Hid (EdgeOk S f N (a, b)) ∧ Hid (Drew wo wr)) (fun _ kv _ => n - (intOf kv).toNat)
            case atStart => exact ⟨f, a, b', r, Nat.le_refl _, by omega, rfl, rfl, HRB, by rw [Hid, HRES.out]; congr 1; omega, HEO, HD⟩
            case round =>
              clear HRES HEO HD HRB
              obtain ⟨k, a, b', r, hk1, hk2, rfl, rfl, HRB, HRG, HEO, HD⟩ := hrel
              by_cases hkn : k < n
              · have hnk : n - k = (n - (k + 1)) + 1 := by omega
                have ci := (HROW.out.drew HD.out).cell hin
                have ck := (HROW.out.drew HD.out).cell hkn
                rw [HBI.out] at ci
                rw [HBL.out k hkn] at ck
                cases hhk : hasI S (k : Int)
                · rw [hhk] at ck
                  have HKS := Lib.hid ((hasI_false S k).1 hhk)
                  have HEK : Hid (EdgeOk S f N ((i : Int), (k : Int))) := .inr ⟨HIS.out, by omega, by omega, HKS.out, by omega, by omega⟩
                  have hp1 := prod_nat i n
                  have hq1 := prod_le (i := i) (n := n) (by omega) hn
                  have hpl := HPOS.out i k hin hkn
                  have HBN : Hid (((i * n : Nat) : Int) + (k : Int) = bst n (i : Int) (k : Int)) := by rw [Hid, bst_nat]; simp
                  have hBR : Below w.heap.size w wr := HB.out.trans (HD.out.below _)
                  have c1 := HCELL.out wr i k hBR hin hkn
                  obtain ⟨q, hqq⟩ : ∃ q, q = i * n := ⟨_, rfl⟩
                  rw [← hqq] at hp1 hq1 hpl c1 HBN
                  clear hqq
                  by_cases ha0 : a < 0
                  · have HN : Hid (rowGo W S i (n - (k + 1)) ((k : Int) + 1) ((i : Int), (k : Int)) = RES) := by rw [Hid, ← HRG.out, hnk, rowGo_yes hhk (.inl ha0)]
                    have hr0 : r < 0 := by rw [HRB.out, bst, if_pos ha0]; decide
                    clear hhk hnk HRG hBR
                    go_wp2_with fail
                    go_quiet (fail)
                    go_wp2
                    go_roundw
                    case rel => exact ⟨k + 1, i, k, _, by omega, by omega, by go_num, rfl, HBN, HN, HEK, HD.out.step _⟩
                    case measure => (simp [intOf]; try omega)
                  · obtain ⟨A, hA⟩ : ∃ A : Nat, a = (A : Int) := ⟨a.toNat, by omega⟩
                    have hea : A < n ∧ 0 ≤ b' ∧ b' < n := by
                      rcases HEO.out with h | ⟨_, h2, h3, _, h5, h6⟩
                      · exfalso
                        have := congrArg Prod.fst h
                        dsimp only at this; omega
                      · dsimp only at h2 h3 h5 h6; omega
                    obtain ⟨e1, e2, e3⟩ := hea
                    obtain ⟨B, hB⟩ : ∃ B : Nat, b' = (B : Int) := ⟨b'.toNat, by omega⟩
                    subst hA
                    subst hB
                    have hrp := HPOS.out A B e1 (by omega)
                    have c2 := HCELL.out wr A B hBR e1 (by omega)
                    have hrr : r = ((A * n + B : Nat) : Int) := by rw [HRB.out, bst_nat]
                    have HYES : Hid (W i k < W A B → rowGo W S i (n - (k + 1)) ((k : Int) + 1) ((i : Int), (k : Int)) = RES) := fun h => by rw [← HRG.out, hnk, rowGo_yes hhk (.inr h)]
                    have HNO : Hid (¬ W i k < W A B → rowGo W S i (n - (k + 1)) ((k : Int) + 1) ((A : Int), (B : Int)) = RES) := fun h => by rw [← HRG.out, hnk, rowGo_no (.inr (by omega))]
                    obtain ⟨R, hR⟩ : ∃ R, R = A * n + B := ⟨_, rfl⟩
                    rw [← hR] at hrp c2 hrr
                    subst hrr
                    obtain ⟨x, hx⟩ : ∃ x, x = W i k := ⟨_, rfl⟩
                    obtain ⟨y, hy⟩ : ∃ y, y = W A B := ⟨_, rfl⟩
                    rw [← hx] at c1 HYES HNO
                    rw [← hy] at c2 HYES HNO
                    have z1 : (q : Int) + (k : Int) < (L : Int) := by omega
                    have z3 : (0 : Int) ≤ (q : Int) + (k : Int) := by omega
                    have z4 : (R : Int) < (L : Int) := by omega
                    have z5 : (0 : Int) ≤ (R : Int) := by omega
                    have z6 : ((q : Int) + (k : Int)).toNat = q + k := by omega
                    have hR0 : ¬ (R : Int) < 0 := by omega
                    clear hhk hnk HRG hx hy hR hBR
                    by_cases hxy : x < y
                    · have HN := Lib.hid (HYES.out hxy)
                      have v1 := wrap_sum (q := q) (k := k) (by omega) (by omega)
                      have v2 := wrap_nat (q := q) (by omega)
                      go_wp2_with fail
                      go_quiet (fail)
                      clear v1 v2
                      go_wp2
                      go_roundw
                      case rel => exact ⟨k + 1, i, k, _, by omega, by omega, by go_num, rfl, HBN, HN, HEK, HD.out.step _⟩
                      case measure => (simp [intOf]; try omega)
                    · have HN := Lib.hid (HNO.out hxy)
                      have hxyd : decide (x < y) = false := decide_eq_false hxy
                      have v1 := wrap_sum (q := q) (k := k) (by omega) (by omega)
                      have v2 := wrap_nat (q := q) (by omega)
                      go_wp2_with fail
                      go_quiet (fail)
                      clear v1 v2
                      go_wp2
                      go_roundw
                      case rel => exact ⟨k + 1, A, B, R, by omega, by omega, by go_num, rfl, HRB, HN, HEO, HD.out.step _⟩
                      case measure => (simp [intOf]; try omega)
                · rw [hhk] at ck
                  have HN : Hid (rowGo W S i (n - (k + 1)) ((k : Int) + 1) (a, b') = RES) := by rw [Hid, ← HRG.out, hnk, rowGo_no (.inl hhk)]
                  clear hhk hnk HRG
                  go_wp2_with fail
                  go_quiet (fail)
                  go_wp2
                  go_roundw
                  case rel => exact ⟨k + 1, a, b', r, by omega, by omega, by go_num, rfl, HRB, HN, HEO, HD.out.step _⟩
                  case measure => (simp [intOf]; try omega)
              · obtain rfl : k = n := by omega
                have HRE : Hid (RES = (a, b')) := by rw [Hid, ← HRG.out, Nat.sub_self, rowGo]
                go_wp2
                go_roundw
                case rel => exact ⟨i + 1, a, b', r, by omega, by omega, by go_num, rfl, HRB, by rw [Hid, ← HRE.out]; exact HP3.out, HEO, HD⟩
                case measure => (simp [intOf]; try omega)
        · obtain rfl : i = n := by omega
          have HAB : Hid ((a, b') = (PA, PB)) := by rw [Hid, ← HP.out, Nat.sub_self, pairGo]
          obtain rfl : a = PA := congrArg Prod.fst HAB.out
          obtain rfl : b' = PB := congrArg Prod.snd HAB.out
          clear HAB HP HEO HPA
          obtain ⟨hpa, hpa1, hpa2, hpb, hpb1, hpb2⟩ := HPK.out
          obtain ⟨A, rfl⟩ : ∃ A : Nat, a = (A : Int) := ⟨a.toNat, by omega⟩
          obtain ⟨B, rfl⟩ : ∃ B : Nat, b' = (B : Int) := ⟨b'.toNat, by omega⟩
          have hA : A < i := by omega
          have hB : B < i := by omega
          have hbd := bst_div (n := i) (i := A) (k := B) hB
          have hrl := HPOS.out A B hA hB
          have hrr : r = ((A * i + B : Nat) : Int) := by rw [HRB.out, bst_nat]
          have HCR := Lib.hid (fun wx (hb : Below w.heap.size w wx) => HCELL.out wx A B hb hA hB)
          have hwr := HR.out (A : Int) (B : Int) (by omega) (by omega) (by omega) (by omega)
          obtain ⟨R, hR⟩ : ∃ R, R = A * i + B := ⟨_, rfl⟩
          rw [← hR] at hbd hrl hrr HCR
          subst hrr
          obtain ⟨x, hx⟩ : ∃ x, x = W A B := ⟨_, rfl⟩
          rw [← hx] at HCR HG2 hwr
          have hw1 := hwr.1
          have hw2 := hwr.2
          obtain ⟨hdv, hmd⟩ := hbd
          have hmd2 : (R : Int) % (i : Int) = (B : Int) := by rw [← Int.tmod_eq_emod_of_nonneg (by omega)]; exact hmd
          have hdv2 : (R : Int) / (i : Int) = (A : Int) := by rw [← Int.tdiv_eq_ediv_of_nonneg (by omega)]; exact hdv
          have hn0 : ¬ (i : Int) = 0 := by omega
          have hn0' : ¬ i = 0 := by omega
          have HROWr := Lib.hid (HROW.out.drew HD.out)
          have hcb := HROWr.out.cell hB
          have hfb := HROWr.out.frozen B
          have HEr := Lib.hid ((HE.out.drew HD.out).mono (Nat.le_refl _) (show wo.heap.size ≤ wr.heap.size by rw [HD.out.heap]; exact Nat.le_refl _) (Nat.le_refl _))
          have HBr := Lib.hid (HB.out.trans (HD.out.below _))
          have hsr2 := HBr.out.size
          have HI1 : Hid (I64 (A : Int)) := by rw [Hid]; unfold I64; omega
          have HI2 : Hid (I64 (B : Int)) := by rw [Hid]; unfold I64; omega
          obtain ⟨ea, ec, rfl⟩ := HEr.out.shape2
          have HBL' : Hid (∀ j : Nat, j < i → (BL.set B true).getD j false = hasI (S ++ [(B : Int)]) (j : Int)) := fun j hj => by
            rw [setB_getD _ _ _ (by rw [HROW.out.length]; exact hB), hasI_snoc]
            by_cases e : B = j
            · subst e; simp
            · rw [if_neg e, HBL.out j hj]
              have : ((B : Int) == (j : Int)) = false := by simp; omega
              simp [this]
          have hwsz : w2.heap.size ≤ wr.heap.size := by rw [HD.out.heap]; exact hwz
          obtain ⟨w3, hw3⟩ : ∃ w3, w3 = wr.setCell ⟨w.heap.size, B, none⟩ (.bool true) := ⟨_, rfl⟩
          have hs3 : w3.heap.size = wr.heap.size := by rw [hw3]; simp [World.setCell]
          have hE3 : OwnI w3 w2.heap.size w3.heap.size (.slice ea E.length ec) E := by
            rw [hw3]
            exact HEr.out.setOther2 ⟨w.heap.size, B, none⟩ _ (fun k e => by have := HEr.out.ge k e; show k ≠ w.heap.size; omega)
          have hRB3 : RowB w3 w.heap.size w.heap.size i i (BL.set B true) := by rw [hw3]; exact HROWr.out.stored B true
          have hB3 : Below w.heap.size w w3 := by rw [hw3]; exact HBr.out.setCell (Nat.le_refl _) _
          have HEA : Hid (OwnI (w3.alloc (.cells #[.int .i64 (A : Int), .int .i64 (B : Int)] 2)).drew w2.heap.size w3.heap.size (.slice ea E.length ec) E) := (hE3.alloc _).drew ⟨1, rfl⟩
          have HXA : Hid (Ints (w3.alloc (.cells #[.int .i64 (A : Int), .int .i64 (B : Int)] 2)).drew w3.heap.size (w3.heap.size + 1) (.slice (some ⟨w3.heap.size, 0, none⟩) 2 2) [(A : Int), (B : Int)]) := ints_new2 w3 A B _ HI1.out HI2.out
          have HRA : Hid (RowB (w3.alloc (.cells #[.int .i64 (A : Int), .int .i64 (B : Int)] 2)).drew w.heap.size w.heap.size i i (BL.set B true)) := (hRB3.alloc _).drew ⟨1, rfl⟩
          have HBA : Hid (Below w.heap.size w (w3.alloc (.cells #[.int .i64 (A : Int), .int .i64 (B : Int)] 2)).drew) := (hB3.alloc (by omega) _).trans ((show Drew _ (w3.alloc (.cells #[.int .i64 (A : Int), .int .i64 (B : Int)] 2)).drew from ⟨1, rfl⟩).below _)
          have HLN : Hid (E.length + [(A : Int), (B : Int)].length ≤ 1099511627776) := by rw [Hid]; simp; omega
          have HLO : Hid (w2.heap.size ≤ (w3.alloc (.cells #[.int .i64 (A : Int), .int .i64 (B : Int)] 2)).drew.heap.size) := by
            show w2.heap.size ≤ (w3.alloc (.cells #[.int .i64 (A : Int), .int .i64 (B : Int)] 2)).heap.size
            simp; omega
          have HLO3 : Hid (w.heap.size ≤ (w3.alloc (.cells #[.int .i64 (A : Int), .int .i64 (B : Int)] 2)).drew.heap.size) := Nat.le_trans (by omega) HLO.out
          have HW3 := Lib.hid hw3
          have HS3 := Lib.hid hs3
          have hwA := wrap_nat (q := A) (by omega)
          have hwB := wrap_nat (q := B) (by omega)
          have HHB := Lib.hid hB
          clear hpa hpb hwr hx HROW HE HD HB HPK hR HRB HBL hw3 hs3 hE3 hRB3 hB3
          go_wp2_with fail
          rw [← HW3.out]
          try rw [← HS3.out]
          go_region_law ((refine step_appIs (by rfl) _ _ (by rfl) _ E (by first | (simp [Act.eval]; done) | (simp [Act.eval, Act.put]; done)) HEA.out _ [(A : Int), (B : Int)] (by first | (simp [Act.eval]; done) | (simp [Act.eval, Act.put]; done) | (simp [Act.eval, Act.put, HS3.out]; done)) HXA.out HLN.out HLO.out ?_; intro v5 w5 ho5 hsm5 hz5 _))
          all_goals
            have HE5 := Lib.hid ho5
            have HRB5 := Lib.hid (HRA.out.same hsm5 (by omega))
            have HB5 := Lib.hid (HBA.out.trans (hsm5.below (B := w.heap.size) (by omega) HLO3.out))
            have hz55 : w2.heap.size ≤ w5.heap.size := Nat.le_trans HLO.out hz5
            have hcr := HCR.out w5 HB5.out
            have HLS : Hid ((S ++ [(B : Int)]).length = s + 1) := by rw [Hid, List.length_append, ← HSL.out]; rfl
            have HLE : Hid ((E ++ [(A : Int), (B : Int)]).length = E.length + 2) := by simp [Hid]
            have HCF2 := HCF.out
            clear ho5 hsm5 hz5 hdv hmd hdv2 hmd2 hwA hwB hcb hfb
            go_wp2_with fail
            first | (go_quiet (fail); go_wp2_with fail) | skip
            go_wp2
            go_roundw
            case rel => exact ⟨m', S ++ [(B : Int)], E ++ [(A : Int), (B : Int)], t + x, BL.set B true, c + 1, by rw [HLS.out]; omega, by rw [HLS.out]; omega, by rw [HLS.out]; omega, by go_num, rfl, by rw [HLS.out]; omega, by rw [HLS.out]; omega, by rw [HLS.out, HLE.out]; omega, HG2, by first | exact HRB5 | exact HRB5.out.drewN _, HBL', by first | exact HE5 | exact HE5.out.drewN _, by first | exact HB5 | exact HB5.out.trans ((Drew.one _ _).below _), by rw [Hid, List.mem_append]; exact .inl HFS.out, by first | exact hz55 | assumption⟩
            case measure => (simp [intOf]; try omega)
    · obtain rfl : m = 0 := by omega
      have hcn : ¬ c < n := by omega
      have HRS : Hid (treeOf W f (n - f) = (E, t)) := by rw [Hid, ← HG.out, treeGo]
      go_wp2
      go_ret2
      exact ⟨_, by rw [HRS.out]; rfl, by rw [HRS.out]; exact HE.out.mono (by omega) (Nat.le_refl _) (Nat.le_refl _), HB.out⟩
end Go.Proofs.Yteoikfddebbakaa
