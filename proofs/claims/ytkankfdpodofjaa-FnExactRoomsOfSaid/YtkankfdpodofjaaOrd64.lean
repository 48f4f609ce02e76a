/-
  The order of at most 64 things by a key: contracts of the library's SortStableFunc and of orderBy.
-/
import Derived.Test.YtkankfdpodofjaaStab
namespace Go.Proofs.Ytkankfdpodofjaa
open Go.RowKit
set_option linter.unusedVariables false
set_option maxRecDepth 100000

theorem nodup_le64 : ∀ (n : Nat) (A : List Int), A.Nodup → (∀ x ∈ A, 0 ≤ x ∧ x < (n : Int)) → A.length ≤ n := by
  intro n
  induction n with
  | zero =>
    intro A _ h
    cases A with
    | nil => simp
    | cons x r => have := h x (List.mem_cons_self ..); omega
  | succ n ih =>
    intro A hn h
    have h1 := ih (A.erase (n : Int)) (hn.erase _) (fun x hx => by
      have h2 := h x (List.mem_of_mem_erase hx)
      have h3 : x ≠ (n : Int) := fun e => by
        rw [e] at hx
        exact (hn.mem_erase_iff.1 hx).1 rfl
      omega)
    by_cases hm : (n : Int) ∈ A
    · have := List.length_erase_of_mem hm; omega
    · rw [List.erase_of_not_mem hm] at h1; omega
theorem all_in64 {n : Nat} {A : List Int} (hl : A.length = n) (hn : A.Nodup) (h : ∀ x ∈ A, 0 ≤ x ∧ x < (n : Int)) {v : Int} (h0 : 0 ≤ v) (h1 : v < n) : v ∈ A := by
  by_cases hv : v ∈ A
  · exact hv
  · have := nodup_le64 n (v :: A) (List.nodup_cons.2 ⟨hv, hn⟩) (fun x hx => by
      rcases List.mem_cons.1 hx with rfl | hx
      · exact ⟨h0, h1⟩
      · exact h x hx)
    simp at this; omega
theorem lex_one {key : Int → Int} : ∀ (l1 l2 : List Int), l1.Pairwise (LexLt key) → l2.Pairwise (LexLt key) → (∀ y, y ∈ l1 ↔ y ∈ l2) → l1 = l2
  | [], [], _, _, _ => rfl
  | [], b :: r, _, _, h => by have := (h b).2 (List.mem_cons_self ..); cases this
  | a :: r, [], _, _, h => by have := (h a).1 (List.mem_cons_self ..); cases this
  | a :: r, b :: t, h1, h2, h => by
    have p1 := List.pairwise_cons.1 h1
    have p2 := List.pairwise_cons.1 h2
    have hab : a = b := by
      rcases List.mem_cons.1 ((h a).1 (List.mem_cons_self ..)) with e | e
      · exact e
      · rcases List.mem_cons.1 ((h b).2 (List.mem_cons_self ..)) with e2 | e2
        · exact e2.symm
        · exact absurd (p1.1 b e2) (lex_not (p2.1 a e))
    subst hab
    have : r = t := lex_one r t p1.2 p2.2 fun y => by
      have hy := h y
      rw [List.mem_cons, List.mem_cons] at hy
      constructor
      · intro hm
        rcases hy.1 (.inr hm) with e | e
        · exact absurd rfl (lex_ne (e ▸ p1.1 y hm))
        · exact e
      · intro hm
        rcases hy.2 (.inr hm) with e | e
        · exact absurd rfl (lex_ne (e ▸ p2.1 y hm))
        · exact e
    rw [this]
theorem rngI_at (n : Nat) : ∀ q : Nat, q < n → at0 (rngI n) q = (q : Int) := fun q hq => by simp [at0, rngI, List.getD, hq]
/-- the list in order is the one in order -/
theorem sorted_ord {key : Int → Int} {cf : Int → Int → Int} (hkey : ∀ x y, decide (cf x y < 0) = decide (key x < key y)) {n : Nat} {R : List Int} (hl : R.length = n) (hs : Seg n (rngI n) R 0 n) (ho : SortR key R 0 n) : R = ordTo (ltOf cf) n := by
  have hA : InjN (rngI n) n := fun p q hp hq e => by rw [rngI_at n p hp, rngI_at n q hq] at e; omega
  have hi := hs.inj hA
  have hx := hs.idx (Nat.le_refl _) (fun q hq => by rw [rngI_at n q hq]; omega)
  have hg : ∀ q (h : q < R.length), at0 R q = R[q] := fun q h => by simp [at0, List.getD, h]
  have hnd : R.Nodup := List.pairwise_iff_getElem.2 fun p q hp hq hpq e => by
    have := hi p q (by omega) (by omega) (by rw [hg p hp, hg q hq, e])
    omega
  have hrng : ∀ x ∈ R, 0 ≤ x ∧ x < (n : Int) := fun x hx' => by
    obtain ⟨q, hq, rfl⟩ := List.mem_iff_getElem.1 hx'
    rw [← hg q hq]; exact hx q (by omega)
  obtain ⟨o1, o2⟩ := ordTo_lex key (ltOf cf) (fun x y => hkey x y) n
  refine lex_one R _ (List.pairwise_iff_getElem.2 fun p q hp hq hpq => ?_) o1 fun y => ?_
  · rw [← hg p hp, ← hg q hq]; exact ho p q (Nat.zero_le _) hpq (by omega)
  · rw [o2]
    exact ⟨hrng y, fun h => all_in64 hl hnd hrng h.1 h.2⟩
set_option maxHeartbeats 1600000 in
set_option maxRecDepth 100000 in
theorem sortStable64_any (F : FuncId) (hF : ∀ args wx, (callFunc F args).run Try.prog wx = .ok (.enter F args) wx) (cap : Array Value) (cf : Int → Int → Int) (key : Int → Int) (hkey : ∀ x y, decide (cf x y < 0) = decide (key x < key y)) {lo g cp n : Nat} (w : World) (hrow : RowI w lo g n cp (rngI n)) (hn : n ≤ 64)
    (hcmp : ∀ wx, Same g (g + 1) w wx → ∀ a b, 0 ≤ a → a < (n : Int) → 0 ≤ b → b < (n : Int) → Calls Try.prog F (#[.int .i64 a, .int .i64 b] ++ cap) wx fun e w' => e = .returned (.int .i64 (cf a b)) ∧ Drew wx w') :
    Calls Try.prog 90 #[.slice (some ⟨g, 0, none⟩) n cp, .func (.func F) #[] cap] w fun e w' => e = .returned (.tuple #[]) ∧ RowI w' lo g n cp (ordTo (ltOf cf) n) ∧ Same g (g + 1) w w' := by
  have HC := Lib.hid (stable64_any F hF cap cf key hkey hn (rngI n) w hrow (rngI_at n) hcmp)
  have HKEY := Lib.hid hkey
  clear hcmp hrow hkey
  go_enter Try.func90, Try.ntmps90
  go_wp2_with fail
  refine HC.out.mono ?_
  rintro e w2 ⟨rfl, R, hr, hsg, hso, hs⟩
  have HR : Hid (RowI w2 lo g n cp (ordTo (ltOf cf) n)) := by rw [← sorted_ord HKEY.out hr.length hsg hso]; exact hr
  clear hr hsg hso
  go_wp2
  first | go_ret2 | go_end0
  exact ⟨rfl, HR.out, hs⟩
set_option maxHeartbeats 1600000 in
set_option maxRecDepth 100000 in
theorem orderBy64_any (F : FuncId) (hF : ∀ args wx, (callFunc F args).run Try.prog wx = .ok (.enter F args) wx) (cap : Array Value) (cf : Int → Int → Int) (key : Int → Int) (hkey : ∀ x y, decide (cf x y < 0) = decide (key x < key y)) {n : Nat} (w : World) (hn0 : 0 < n) (hn : n ≤ 64)
    (hcmp : ∀ wx, Below w.heap.size w wx → ∀ a b, 0 ≤ a → a < (n : Int) → 0 ≤ b → b < (n : Int) → Calls Try.prog F (#[.int .i64 a, .int .i64 b] ++ cap) wx fun e w' => e = .returned (.int .i64 (cf a b)) ∧ Drew wx w') :
    Calls Try.prog 63 #[.int .i64 n, .func (.func F) #[] cap] w fun e w' => ∃ v, e = .returned v ∧ OwnI w' w.heap.size w'.heap.size v (ordTo (ltOf cf) n) ∧ Below w.heap.size w w' := by
  have HC := Lib.hid hcmp
  have HKEY := Lib.hid hkey
  clear hcmp hkey
  go_enter Try.func63, Try.ntmps63
  go_wp2_with fail
  go_loopw [5, 6] (fun ov i wr => ∃ k : Nat, k ≤ n ∧ i = .int .i64 k ∧ OwnI wr w.heap.size wr.heap.size ov (rngI k) ∧ Below w.heap.size w wr) (fun _ i _ => n - (intOf i).toNat)
  case atStart => exact ⟨0, Nat.zero_le _, rfl, OwnI.nil _ _ _ (Nat.le_refl _), Below.refl _ _⟩
  case round =>
    obtain ⟨k, hk, rfl, ho, hb⟩ := hrel
    have hs := hb.size
    have HO := Lib.hid ho
    have hrl := rngI_len k
    clear ho
    by_cases hlt : k < n
    · have HR := Lib.hid (rngI_succ k)
      have hrl2 : (rngI k).length ≤ 70 := by omega
      clear hrl
      go_wp2_with (at_builtin; refine wpList_app1 rfl _ _ rfl _ (rngI k) rfl (k : Int) _ HO.out rfl (by constructor <;> omega) (by omega) hs ?_)
      intro v2 w3 ho2 hsm hz3 _
      have HO2 : Hid (OwnI w3 w.heap.size w3.heap.size v2 (rngI (k + 1))) := by rw [Hid, HR.out]; exact ho2
      clear ho2
      go_wp2
      go_roundw
      case rel => exact ⟨k + 1, by omega, by go_num, HO2.out, hb.trans (hsm.below (Nat.le_refl _) hs)⟩
      case measure => (simp [intOf]; try omega)
    · obtain rfl : k = n := by omega
      rcases HO.out.rowOf with ⟨_, h0⟩ | ⟨g, cp, e, hg1, hg2, hg3, hrow⟩
      · rw [h0] at hrl; simp at hrl; omega
      · rw [hrl] at e hrow hg2
        have hgl := hrow.ge
        have hrg : Idx k (rngI k) := by
          intro x hx
          simp only [rngI, List.mem_map, List.mem_range] at hx
          obtain ⟨j, hj, rfl⟩ := hx
          omega
        have HS := Lib.hid (sortStable64_any F hF cap cf key HKEY.out wr hrow hn (fun wx hsx a b h1 h2 h3 h4 => HC.out wx (hb.trans (hsx.below (by omega) (by omega))) a b h1 h2 h3 h4))
        have HL := Lib.hid (ordTo_len (ltOf cf) k)
        subst e
        clear hrow hrl hrg
        go_wp2_with fail
        refine HS.out.mono ?_
        rintro e w2 ⟨rfl, hr, hsm⟩
        have hz := hsm.size
        have hro := hr.own ((ordTo_idx (ltOf cf) k).i64 (by omega)) (by omega) (show g < w2.heap.size by omega) (Nat.le_refl _)
        have HRO := Lib.hid hro
        clear hr hro
        go_wp2
        go_ret
        exact ⟨_, rfl, HRO.out, hb.trans (hsm.below (by omega) (by omega))⟩
end Go.Proofs.Ytkankfdpodofjaa
