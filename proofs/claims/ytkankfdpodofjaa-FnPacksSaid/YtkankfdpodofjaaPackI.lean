/-
  Packs: contracts in the program (as XPack, of which this is a part, for a seat that lacks the jobs).
-/
import Derived.Test.YtkankfdpodofjaaLaySort
import Derived.Test.YtkankfdpodofjaaSort
import Derived.Test.YtkankfdpodofjaaOneN
import Derived.Test.YtkankfdpodofjaaStepI
import Derived.BigQuiet
namespace Go.Proofs.Ytkankfdpodofjaa
open Go.RowKit
set_option linter.unusedVariables false
set_option maxRecDepth 100000

def quoLt (sizes gains : List Int) (x y : Int) : Bool := decide (gains.getD y.toNat 0 * sizes.getD x.toNat 0 < gains.getD x.toNat 0 * sizes.getD y.toNat 0)
def quoCmp (sizes gains : List Int) (a b : Int) : Int := cmpI (gains.getD b.toNat 0 * sizes.getD a.toNat 0) (gains.getD a.toNat 0 * sizes.getD b.toNat 0)
theorem quoCmp_lt (sizes gains : List Int) : ltOf (quoCmp sizes gains) = quoLt sizes gains := by
  funext x y; unfold ltOf quoCmp quoLt; exact cmpI_lt _ _
/-! ### No number twice -/
def ND (A : List Int) : Prop := ∀ i j, i < A.length → j < A.length → A.getD i 0 = A.getD j 0 → i = j
theorem swapAt_getD (A : List Int) (j i : Nat) (hj : j + 1 < A.length) : (swapAt A j).getD i 0 = A.getD (if i = j then j + 1 else if i = j + 1 then j else i) 0 := by
  unfold swapAt
  by_cases h1 : i = j
  · subst h1
    rw [if_pos rfl]
    simp [List.getD, show i < A.length by omega, hj]
  · rw [if_neg h1]
    simp only [List.getD]
    rw [List.getElem?_set_ne (by omega)]
    by_cases h2 : i = j + 1
    · subst h2
      rw [if_pos rfl]
      simp [hj]
    · rw [if_neg h2, List.getElem?_set_ne (by omega)]
theorem ND.swap {A : List Int} (h : ND A) {j : Nat} (hj : j + 1 < A.length) : ND (swapAt A j) := by
  intro a b ha hb e
  rw [swapAt_len] at ha hb
  rw [swapAt_getD _ _ _ hj, swapAt_getD _ _ _ hj] at e
  have := h _ _ (by split <;> (try split) <;> omega) (by split <;> (try split) <;> omega) e
  split at this <;> split at this <;> (try split at this) <;> (try split at this) <;> omega
theorem ND.sink {lt : Int → Int → Bool} : ∀ (j : Nat) {A : List Int}, ND A → j < A.length → ND (sinkAt lt j A) := by
  intro j
  induction j with
  | zero => intro A h _; exact h
  | succ j ih =>
    intro A h hj
    rw [sinkAt]
    split
    · exact ih (h.swap hj) (by rw [swapAt_len]; omega)
    · exact h
theorem ordTo_nd (lt : Int → Int → Bool) (n : Nat) : ND (ordTo lt n) := by
  induction n with
  | zero => intro i j hi; simp [ordTo] at hi
  | succ n ih =>
    rw [ordTo]
    have hl := ordTo_len lt n
    refine ND.sink n ?_ (by simp [hl])
    intro i j hi hj e
    simp only [List.length_append, List.length_cons, List.length_nil, hl] at hi hj
    have g1 : ∀ k, k < n → (ordTo lt n ++ [(n : Int)]).getD k 0 = (ordTo lt n).getD k 0 := fun k hk => by
      simp only [List.getD]; rw [List.getElem?_append_left (by omega)]
    have g2 : (ordTo lt n ++ [(n : Int)]).getD n 0 = (n : Int) := by
      simp only [List.getD]; rw [List.getElem?_append_right (by omega), hl, Nat.sub_self]; rfl
    have b : ∀ k, k < n → (ordTo lt n).getD k 0 < (n : Int) := fun k hk => (ordTo_idx lt n _ (getD_mem (by omega))).2
    by_cases h1 : i < n <;> by_cases h2 : j < n
    · rw [g1 _ h1, g1 _ h2] at e
      exact ih i j (by omega) (by omega) e
    · obtain rfl : j = n := by omega
      rw [g1 _ h1, g2] at e
      have := b i h1; omega
    · obtain rfl : i = n := by omega
      rw [g1 _ h2, g2] at e
      have := b j h2; omega
    · omega
theorem ND.nodup {A : List Int} (h : ND A) : A.Nodup := by
  rw [List.Nodup, List.pairwise_iff_getElem]
  intro i j hi hj hij e
  have := h i j hi hj (by simp [List.getD, hi, hj, e])
  omega
/-! ### The pack -/
def packGo (sizes gains : List Int) : List Int → Int → List Int → Int → List Int × Int
  | [], _, T, s => (T, s)
  | i :: r, left, T, s => if sizes.getD i.toNat 0 ≤ left then packGo sizes gains r (left - sizes.getD i.toNat 0) (T ++ [i]) (s + gains.getD i.toNat 0) else packGo sizes gains r left T s
theorem packGo_nodup (sizes gains : List Int) (n : Nat) : ∀ (S : List Int) (left : Int) (T : List Int) (s : Int), (T ++ S).Nodup → (∀ x ∈ T ++ S, 0 ≤ x ∧ x < (n : Int)) → (packGo sizes gains S left T s).1.Nodup ∧ ∀ x ∈ (packGo sizes gains S left T s).1, 0 ≤ x ∧ x < (n : Int) := by
  intro S
  induction S with
  | nil => intro left T s h hb; rw [packGo]; simp only [List.append_nil] at h hb; exact ⟨h, hb⟩
  | cons i r ih =>
    intro left T s h hb
    rw [packGo]
    split
    · exact ih _ _ _ (by rw [List.append_assoc]; exact h) (by rw [List.append_assoc]; exact hb)
    · refine ih _ _ _ (h.sublist ?_) (fun x hx => hb x ?_)
      · exact List.Sublist.append_left (List.sublist_cons_self i r) T
      · rcases List.mem_append.1 hx with hx | hx
        · exact List.mem_append_left _ hx
        · exact List.mem_append_right _ (List.mem_cons_of_mem _ hx)
def takenTo (T : List Int) : Nat → List Int
  | 0 => []
  | q + 1 => if hasI T (q : Int) then takenTo T q ++ [(q : Int)] else takenTo T q
theorem takenTo_mem (T : List Int) (n : Nat) (x : Int) : x ∈ takenTo T n ↔ x ∈ T ∧ 0 ≤ x ∧ x < (n : Int) := by
  induction n with
  | zero => simp [takenTo]
  | succ n ih =>
    rw [takenTo]
    cases hh : hasI T (n : Int)
    · rw [if_neg (by decide), ih]
      have hn : (n : Int) ∉ T := fun hm => by rw [← hasI_iff] at hm; rw [hm] at hh; cases hh
      constructor
      · rintro ⟨h1, h2, h3⟩; exact ⟨h1, h2, by omega⟩
      · rintro ⟨h1, h2, h3⟩
        refine ⟨h1, h2, ?_⟩
        by_cases hx : x = (n : Int)
        · subst hx; exact absurd h1 hn
        · omega
    · rw [if_pos rfl, List.mem_append, ih, List.mem_singleton]
      have hn := (hasI_iff T (n : Int)).1 hh
      constructor
      · rintro (⟨h1, h2, h3⟩ | rfl)
        · exact ⟨h1, h2, by omega⟩
        · exact ⟨hn, by omega, by omega⟩
      · rintro ⟨h1, h2, h3⟩
        by_cases hx : x = (n : Int)
        · exact .inr hx
        · exact .inl ⟨h1, h2, by omega⟩
theorem takenTo_sorted (T : List Int) (n : Nat) : (takenTo T n).Pairwise (· < ·) := by
  induction n with
  | zero => exact List.Pairwise.nil
  | succ n ih =>
    rw [takenTo]
    split
    · rw [List.pairwise_append]
      exact ⟨ih, List.pairwise_singleton _ _, fun a ha b hb => by
        rw [List.mem_singleton] at hb; subst hb
        exact ((takenTo_mem T n a).1 ha).2.2⟩
    · exact ih
theorem strict_ext : ∀ {A B : List Int}, A.Pairwise (· < ·) → B.Pairwise (· < ·) → (∀ x, x ∈ A ↔ x ∈ B) → A = B := by
  intro A
  induction A with
  | nil =>
    intro B _ _ h
    cases B with
    | nil => rfl
    | cons b r => exact absurd ((h b).2 (by simp)) (by simp)
  | cons a r ih =>
    intro B hA hB h
    cases B with
    | nil => exact absurd ((h a).1 (by simp)) (by simp)
    | cons b q =>
      rw [List.pairwise_cons] at hA hB
      have e : a = b := by
        have h1 : a = b ∨ b < a := by
          rcases List.mem_cons.1 ((h a).1 (by simp)) with h' | h'
          · exact .inl h'
          · exact .inr (hB.1 a h')
        have h2 : b = a ∨ a < b := by
          rcases List.mem_cons.1 ((h b).2 (by simp)) with h' | h'
          · exact .inl h'
          · exact .inr (hA.1 b h')
        omega
      subst e
      refine congrArg (a :: ·) (ih hA.2 hB.2 fun x => ⟨fun hx => ?_, fun hx => ?_⟩)
      · rcases List.mem_cons.1 ((h x).1 (List.mem_cons_of_mem _ hx)) with h' | h'
        · have := hA.1 x hx; omega
        · exact h'
      · rcases List.mem_cons.1 ((h x).2 (List.mem_cons_of_mem _ hx)) with h' | h'
        · have := hB.1 x hx; omega
        · exact h'
theorem sortI_taken {T : List Int} {n : Nat} (hn : T.Nodup) (hb : ∀ x ∈ T, 0 ≤ x ∧ x < (n : Int)) : sortI T = takenTo T n := by
  refine strict_ext ?_ (takenTo_sorted T n) fun x => ?_
  · have h1 : (sortI T).Pairwise (fun x y => decide (x ≤ y) = true) := List.pairwise_mergeSort (fun a b c h1 h2 => by simp at *; omega) (fun a b => by simp; omega) T
    have h2 : (sortI T).Nodup := (List.mergeSort_perm T _).nodup_iff.2 hn
    exact List.Pairwise.imp₂ (fun a b h3 h4 => by simp at h3; exact Int.lt_iff_le_and_ne.2 ⟨h3, h4⟩) h1 h2
  · rw [takenTo_mem]
    constructor
    · intro h; have hm := (List.mem_mergeSort).1 h; exact ⟨hm, hb x hm⟩
    · rintro ⟨h, _⟩; exact (List.mem_mergeSort).2 h
theorem takenTo_len (T : List Int) (q : Nat) : (takenTo T q).length ≤ q := by
  induction q with
  | zero => simp [takenTo]
  | succ q ih => rw [takenTo]; split <;> (try simp) <;> omega
theorem set1_heap (w : World) (q o : Nat) (u : Value) : Same q (q + 1) w (w.setCell ⟨q, o, none⟩ u) := (Same.refl q (q + 1) w).setCell (p := ⟨q, o, none⟩) (Nat.le_refl _) (Nat.lt_succ_self _) u
def okThings (sizes : List Int) : Bool := sizes.all (inB 1 1000) && inB 1 16 (sizes.length : Int)
def okPack (sizes gains : List Int) (room : Int) : Bool := okThings sizes && (decide (gains.length = sizes.length) && (inB 0 1000 room && gains.all (inB 0 1000)))
def packOrder (sizes gains : List Int) : List Int := ordTo (quoLt sizes gains) sizes.length
def packT (sizes gains : List Int) (room : Int) : List Int × Int := packGo sizes gains (packOrder sizes gains) room [] 0
def greedyPack (sizes gains : List Int) (room : Int) : List Int × Int × Bool := if okPack sizes gains room then (takenTo (packT sizes gains room).1 sizes.length, (packT sizes gains room).2, true) else ([], 0, false)
theorem okPack_out {sizes gains : List Int} {room : Int} (h : okPack sizes gains room = true) : (∀ x ∈ sizes, 1 ≤ x ∧ x ≤ 1000) ∧ (1 ≤ sizes.length ∧ sizes.length ≤ 16) ∧ gains.length = sizes.length ∧ (0 ≤ room ∧ room ≤ 1000) ∧ ∀ x ∈ gains, 0 ≤ x ∧ x ≤ 1000 := by
  simp only [okPack, okThings, Bool.and_eq_true, List.all_eq_true, decide_eq_true_eq] at h
  have := inB_true h.1.2
  exact ⟨fun x hx => inB_true (h.1.1 x hx), ⟨by omega, by omega⟩, h.2.1, inB_true h.2.2.1, fun x hx => inB_true (h.2.2.2 x hx)⟩
theorem greedy_no {sizes gains : List Int} {room : Int} (h : okPack sizes gains room = false) : greedyPack sizes gains room = ([], 0, false) := by simp [greedyPack, h]
set_option maxHeartbeats 800000 in
set_option maxRecDepth 100000 in
theorem areSizes_any {l h : Nat} (v : Value) (zs : List Int) (w : World) (hv : Ints w l h v zs) (hz : zs.length ≤ 1048576) :
    Calls Try.prog 59 #[v] w fun e w' => e = .returned (.bool (okThings zs)) ∧ w = w' := by
  have HV := Lib.hid hv
  obtain ⟨a, cap, rfl, hc1, hc2, hd⟩ := hv.out
  clear hv hd
  cases hA : inB 1 16 (zs.length : Int)
  · go_enter Try.func59, Try.ntmps59
    go_wp2_with fail
    refine (size_any _ (by omega) _).mono ?_
    rintro e w' ⟨rfl, rfl⟩
    go_wp2_with fail
    refine (within_any _ _ _ _).mono ?_
    rintro e w' ⟨rfl, rfl⟩
    rw [hA]
    go_wp2
    go_ret
    exact ⟨ret_bool (by simp [okThings, hA]), rfl⟩
  · go_enter Try.func59, Try.ntmps59
    go_wp2_with fail
    refine (size_any _ (by omega) _).mono ?_
    rintro e w' ⟨rfl, rfl⟩
    go_wp2_with fail
    refine (within_any _ _ _ _).mono ?_
    rintro e w' ⟨rfl, rfl⟩
    rw [hA]
    go_wp2_with fail
    refine (allWithin_any _ _ _ zs _ _ _ HV.out).mono ?_
    rintro e w' ⟨rfl, rfl⟩
    go_wp2
    go_ret
    exact ⟨ret_bool (by rw [okThings, hA, Bool.and_true]), rfl⟩
theorem isRoom_any (n : Int) (w : World) :
    Calls Try.prog 60 #[.int .i64 n] w fun e w' => e = .returned (.bool (inB 0 1000 n)) ∧ w = w' := by
  go_enter Try.func60, Try.ntmps60
  go_wp2_with fail
  refine (within_any _ _ _ _).mono ?_
  rintro e w' ⟨rfl, rfl⟩
  go_wp2
  go_ret
  exact ⟨rfl, rfl⟩
set_option maxHeartbeats 1600000 in
set_option maxRecDepth 100000 in
theorem arePacks_any {l h l' h' : Nat} (v v' : Value) (sizes gains : List Int) (room : Int) (w : World) (hv : Ints w l h v sizes) (hz : sizes.length ≤ 1048576) (hv' : Ints w l' h' v' gains) :
    Calls Try.prog 54 #[v, v', .int .i64 room] w fun e w' => e = .returned (.bool (okPack sizes gains room)) ∧ w = w' := by
  have HV := Lib.hid hv
  have HV' := Lib.hid hv'
  obtain ⟨a, cap, rfl, hc1, hc2, hd⟩ := hv.out
  obtain ⟨ga, gcap, rfl, gc1, gc2, gd⟩ := hv'.out
  clear hv hv' hd gd
  cases h1 : okThings sizes
  · have HE := Lib.hid (show okPack sizes gains room = false by simp only [okPack, h1, Bool.false_and])
    go_enter Try.func54, Try.ntmps54
    go_wp2_with fail
    refine (areSizes_any _ sizes w HV.out hz).mono ?_
    rintro e w' ⟨rfl, rfl⟩
    rw [h1]
    go_wp2
    go_ret
    exact ⟨ret_bool HE.out.symm, rfl⟩
  cases h2 : decide (gains.length = sizes.length)
  · have HE := Lib.hid (show okPack sizes gains room = false by simp only [okPack, h2, Bool.false_and, Bool.and_false])
    have hne : ((gains.length : Int) == (sizes.length : Int)) = false := by simp at h2 ⊢; omega
    clear h2
    go_enter Try.func54, Try.ntmps54
    go_wp2_with fail
    refine (areSizes_any _ sizes w HV.out hz).mono ?_
    rintro e w' ⟨rfl, rfl⟩
    rw [h1]
    go_wp2
    go_ret
    exact ⟨ret_bool HE.out.symm, rfl⟩
  have H2 := Lib.hid h2
  have h2' := of_decide_eq_true h2
  have hne : ((gains.length : Int) == (sizes.length : Int)) = true := by simp [h2']
  clear h2 h2'
  cases h3 : gains.all (inB 0 1000)
  · have HE := Lib.hid (show okPack sizes gains room = false by simp only [okPack, h3, Bool.and_false])
    go_enter Try.func54, Try.ntmps54
    go_wp2_with fail
    refine (areSizes_any _ sizes w HV.out hz).mono ?_
    rintro e w' ⟨rfl, rfl⟩
    rw [h1]
    go_wp2_with fail
    refine (allWithin_any _ _ _ gains _ _ _ HV'.out).mono ?_
    rintro e w' ⟨rfl, rfl⟩
    rw [h3]
    go_wp2
    go_ret
    exact ⟨ret_bool HE.out.symm, rfl⟩
  have HE := Lib.hid (show okPack sizes gains room = inB 0 1000 room by rw [okPack, h1, H2.out, h3]; simp)
  go_enter Try.func54, Try.ntmps54
  go_wp2_with fail
  refine (areSizes_any _ sizes w HV.out hz).mono ?_
  rintro e w' ⟨rfl, rfl⟩
  rw [h1]
  go_wp2_with fail
  refine (allWithin_any _ _ _ gains _ _ _ HV'.out).mono ?_
  rintro e w' ⟨rfl, rfl⟩
  rw [h3]
  go_wp2_with fail
  refine (isRoom_any _ _).mono ?_
  rintro e w' ⟨rfl, rfl⟩
  go_wp2
  go_ret
  exact ⟨ret_bool HE.out.symm, rfl⟩
set_option maxHeartbeats 800000 in
set_option maxRecDepth 100000 in
theorem packCmp_any {l h l' h' p q : Nat} (v : Value) (sizes : List Int) (v' : Value) (gains : List Int) (w : World) (hp : w.cell? ⟨p, 0, none⟩ = some v) (hq : w.cell? ⟨q, 0, none⟩ = some v') (hv : Ints w l h v sizes) (hv' : Ints w l' h' v' gains) (hl : gains.length = sizes.length)
    (hs1 : ∀ x ∈ sizes, 1 ≤ x ∧ x ≤ 1000) (hg1 : ∀ x ∈ gains, 0 ≤ x ∧ x ≤ 1000) (a b : Int) (ha : 0 ≤ a) (ha2 : a < (sizes.length : Int)) (hb : 0 ≤ b) (hb2 : b < (sizes.length : Int)) (hz : sizes.length ≤ 1048576) :
    Calls Try.prog 87 #[.int .i64 a, .int .i64 b, .pointer (some ⟨q, 0, none⟩), .pointer (some ⟨p, 0, none⟩)] w fun e w' => e = .returned (.int .i64 (quoCmp sizes gains a b)) ∧ Drew w w' := by
  obtain ⟨an, rfl⟩ : ∃ an : Nat, a = (an : Int) := ⟨a.toNat, by omega⟩
  obtain ⟨bn, rfl⟩ : ∃ bn : Nat, b = (bn : Int) := ⟨b.toNat, by omega⟩
  have h1 : an < sizes.length := by omega
  have h2 : bn < sizes.length := by omega
  have h3 : an < gains.length := by omega
  have h4 : bn < gains.length := by omega
  have hl1 : gains.length ≤ sizes.length := by omega
  have hl2 : sizes.length ≤ gains.length := by omega
  clear hl
  obtain ⟨va, cap, rfl, hc1, hc2, hd⟩ := hv.out
  obtain ⟨sa, scap, rfl, sc1, sc2, sd⟩ := hv'.out
  rcases hd with hd | ⟨blk, off, rfl, hb1, hbb2, hb3, hcell⟩
  · rw [hd] at h1; simp at h1
  rcases sd with sd | ⟨sbk, so, rfl, sb1, sb2, sb3, scell⟩
  · rw [sd] at h3; simp at h3
  have ca : w.cell? ⟨blk, off + an, none⟩ = some (.int .i64 (sizes.getD an 0)) := hcell an h1
  have cb : w.cell? ⟨blk, off + bn, none⟩ = some (.int .i64 (sizes.getD bn 0)) := hcell bn h2
  have da : w.cell? ⟨sbk, so + an, none⟩ = some (.int .i64 (gains.getD an 0)) := scell an h3
  have db : w.cell? ⟨sbk, so + bn, none⟩ = some (.int .i64 (gains.getD bn 0)) := scell bn h4
  have ba := hs1 _ (getD_mem h1)
  have bb := hs1 _ (getD_mem h2)
  have ea := hg1 _ (getD_mem h3)
  have eb := hg1 _ (getD_mem h4)
  have HE : Hid (quoCmp sizes gains (an : Int) (bn : Int) = cmpI (gains.getD bn 0 * sizes.getD an 0) (gains.getD an 0 * sizes.getD bn 0)) := by
    rw [Hid, quoCmp, Int.toNat_natCast, Int.toNat_natCast]
  clear hcell scell hv hv' hs1 hg1
  obtain ⟨fx, hfx⟩ : ∃ x, x = sizes.getD an 0 := ⟨_, rfl⟩
  obtain ⟨fy, hfy⟩ : ∃ x, x = sizes.getD bn 0 := ⟨_, rfl⟩
  obtain ⟨gx, hgx⟩ : ∃ x, x = gains.getD an 0 := ⟨_, rfl⟩
  obtain ⟨gy, hgy⟩ : ∃ x, x = gains.getD bn 0 := ⟨_, rfl⟩
  rw [← hfx] at ca ba HE
  rw [← hfy] at cb bb HE
  rw [← hgx] at da ea HE
  rw [← hgy] at db eb HE
  obtain ⟨P1, hP1⟩ : ∃ P : Int, gy * fx = P := ⟨_, rfl⟩
  obtain ⟨P2, hP2⟩ : ∃ P : Int, gx * fy = P := ⟨_, rfl⟩
  have hp1a : 0 ≤ P1 := by rw [← hP1]; exact Int.mul_nonneg eb.1 (by omega)
  have hp2a : 0 ≤ P2 := by rw [← hP2]; exact Int.mul_nonneg ea.1 (by omega)
  have hp1b : P1 ≤ 1000000 := by rw [← hP1]; exact Int.mul_le_mul eb.2 ba.2 (by omega) (by omega)
  have hp2b : P2 ≤ 1000000 := by rw [← hP2]; exact Int.mul_le_mul ea.2 bb.2 (by omega) (by omega)
  have hw1 : IntKind.i64.wrap (gy * fx) = P1 := by rw [hP1]; exact IntWalk.i64_in _ (by omega)
  have hw2 : IntKind.i64.wrap (gx * fy) = P2 := by rw [hP2]; exact IntWalk.i64_in _ (by omega)
  rw [hP1, hP2] at HE
  clear hfx hfy hgx hgy hP1 hP2 ba bb ea eb
  go_enter Try.func87, Try.ntmps87
  go_wp2_with fail
  go_quiet ((go_at_call 65; exact quiet_same (compare_any _ _ _)))
  go_wp2
  go_ret
  exact ⟨ret_int HE.out.symm, Drew.one _ _⟩
set_option maxHeartbeats 1600000 in
set_option maxRecDepth 100000 in
theorem byQuotient_any {l h l' h' : Nat} (v : Value) (sizes : List Int) (v' : Value) (gains : List Int) (w : World) (hv : Ints w l h v sizes) (hh : h ≤ w.heap.size) (hv' : Ints w l' h' v' gains) (hh' : h' ≤ w.heap.size) (hl : gains.length = sizes.length) (h0 : 0 < sizes.length) (h16 : sizes.length ≤ 16)
    (hs1 : ∀ x ∈ sizes, 1 ≤ x ∧ x ≤ 1000) (hg1 : ∀ x ∈ gains, 0 ≤ x ∧ x ≤ 1000) :
    Calls Try.prog 57 #[v, v'] w fun e w' => ∃ u, e = .returned u ∧ OwnI w' w.heap.size w'.heap.size u (packOrder sizes gains) ∧ Below w.heap.size w w' := by
  have hvk := hv
  have hvk' := hv'
  obtain ⟨fa, fc, rfl, fc1, fc2, fd⟩ := hv.out
  obtain ⟨sa, sc, rfl, sc1, sc2, sd⟩ := hv'.out
  obtain ⟨W1, hW1⟩ : ∃ W, W = w.alloc (.cells #[.slice fa sizes.length fc] 25) := ⟨_, rfl⟩
  obtain ⟨W, hW⟩ : ∃ W, W = W1.alloc (.cells #[.slice sa gains.length sc] 25) := ⟨_, rfl⟩
  have hs1' : W1.heap.size = w.heap.size + 1 := by rw [hW1]; simp
  have hsW : W.heap.size = w.heap.size + 2 := by rw [hW]; simp [hs1']
  have hB1 : Below w.heap.size w W1 := by rw [hW1]; exact below_newW _ _
  have hB2 : Below W1.heap.size W1 W := by rw [hW]; exact below_newW _ _
  have hBW : Below w.heap.size w W := hB1.trans (hB2.mono (by omega))
  have q0 : W.cell? ⟨w.heap.size, 0, none⟩ = some (.slice fa sizes.length fc) := by
    rw [hB2.cell (p := ⟨w.heap.size, 0, none⟩) (show w.heap.size < W1.heap.size by omega), hW1]; exact one_new _ _ _
  have q1 : W.cell? ⟨w.heap.size + 1, 0, none⟩ = some (.slice sa gains.length sc) := by rw [hW, ← hs1']; exact one_new _ _ _
  have HF := Lib.hid (hvk.below hBW hh)
  have HS := Lib.hid (hvk'.below hBW hh')
  have hsa : w.heap.size + 1 < W.heap.size := by omega
  have HO := Lib.hid (orderBy_any 87 (fun _ _ => by kernel_rfl) #[.pointer (some ⟨w.heap.size + 1, 0, none⟩), .pointer (some ⟨w.heap.size, 0, none⟩)] (quoCmp sizes gains) (n := sizes.length) W h0 (by omega) (fun wx hbw a b h1 h2 h3 h4 => by
    have hc : wx.cell? ⟨w.heap.size, 0, none⟩ = some (.slice fa sizes.length fc) := by rw [hbw.cell (p := ⟨w.heap.size, 0, none⟩) (show w.heap.size < W.heap.size by omega)]; exact q0
    have hc' : wx.cell? ⟨w.heap.size + 1, 0, none⟩ = some (.slice sa gains.length sc) := by rw [hbw.cell (p := ⟨w.heap.size + 1, 0, none⟩) hsa]; exact q1
    exact packCmp_any _ sizes _ gains wx hc hc' (HF.out.below hbw (by omega)) (HS.out.below hbw (by omega)) hl hs1 hg1 a b h1 h2 h3 h4 (by omega)))
  rw [quoCmp_lt] at HO
  have HPO : Hid (packOrder sizes gains = ordTo (quoLt sizes gains) sizes.length) := rfl
  have HL := Lib.hid hl
  clear hv hv' hvk hvk' hB1 hB2 hsW hl fd sd hs1' hs1 hg1
  go_enter Try.func57, Try.ntmps57
  go_wp2_with fail
  rw [← hW1, ← hW]
  clear hW hW1
  go_wp2_with fail
  refine HO.out.mono ?_
  rintro e w2 ⟨u, rfl, ho, hb⟩
  have HO2 := Lib.hid ho
  clear ho
  go_wp2
  go_ret
  exact ⟨_, rfl, by rw [HPO.out]; exact HO2.out.mono (by omega) (Nat.le_refl _) (Nat.le_refl _), hBW.trans (hb.mono (by omega))⟩
set_option maxHeartbeats 2000000 in
set_option maxRecDepth 100000 in
theorem implGreedyPack_any (w : World) {l h l' h' : Nat} (v : Value) (sizes : List Int) (v' : Value) (gains : List Int) (room : Int) (hv : Ints w l h v sizes) (hh : h ≤ w.heap.size) (hz : sizes.length ≤ 1048576) (hv' : Ints w l' h' v' gains) (hh' : h' ≤ w.heap.size) (hz' : gains.length ≤ 1048576) (kr : I64 room) :
    Calls Try.prog 17 #[v, v', .int .i64 room] w fun e w' => ∃ r, e = .returned (.tuple #[r, .int .i64 (greedyPack sizes gains room).2.1, .bool (greedyPack sizes gains room).2.2]) ∧ OwnI w' w.heap.size w'.heap.size r (greedyPack sizes gains room).1 ∧ Below w.heap.size w w' := by
  have HV := Lib.hid hv
  have HV' := Lib.hid hv'
  obtain ⟨a, cap, rfl, hc1, hc2, hd⟩ := hv.out
  obtain ⟨ga, gcap, rfl, gc1, gc2, gd⟩ := hv'.out
  clear hv hv'
  cases hok : okPack sizes gains room
  · have HE := Lib.hid (greedy_no hok)
    go_enter Try.func17, Try.ntmps17
    go_wp2_with fail
    refine (arePacks_any _ _ sizes gains room w HV.out hz HV'.out).mono ?_
    rintro e w' ⟨rfl, rfl⟩
    rw [hok]
    go_wp2
    go_ret3
    exact ⟨_, by rw [HE.out]; rfl, by rw [HE.out]; exact OwnI.nil _ _ _ (Nat.le_refl _), Below.refl _ _⟩
  obtain ⟨p1, p2, p3, p4, p5⟩ := okPack_out hok
  have HE := Lib.hid (show greedyPack sizes gains room = (takenTo (packT sizes gains room).1 sizes.length, (packT sizes gains room).2, true) by simp [greedyPack, hok])
  have HPT : Hid (packT sizes gains room = packGo sizes gains (packOrder sizes gains) room [] 0) := rfl
  have HP1 := Lib.hid p1
  have HP5 := Lib.hid p5
  have hgl1 : gains.length ≤ sizes.length := by omega
  have hgl2 : sizes.length ≤ gains.length := by omega
  have hsl : (packOrder sizes gains).length = sizes.length := ordTo_len (quoLt sizes gains) sizes.length
  have HID : Hid (Idx sizes.length (packOrder sizes gains)) := ordTo_idx (quoLt sizes gains) sizes.length
  have HND : Hid ((packOrder sizes gains).Nodup) := (ordTo_nd (quoLt sizes gains) sizes.length).nodup
  have HFIN : Hid (sortI (packT sizes gains room).1 = takenTo (packT sizes gains room).1 sizes.length) := by
    have := packGo_nodup sizes gains sizes.length (packOrder sizes gains) room [] 0 (by simpa using HND.out) (by rw [List.nil_append]; exact HID.out)
    exact sortI_taken this.1 this.2
  have HG := Lib.hid p3
  have HQ := Lib.hid (byQuotient_any _ sizes _ gains w HV.out hh HV'.out hh' p3 (by omega) (by omega) p1 p5)
  obtain ⟨S, hS⟩ : ∃ S, S = packOrder sizes gains := ⟨_, rfl⟩
  rw [← hS] at hsl HID HPT HQ
  have hsl1 : S.length ≤ sizes.length := by omega
  have hsl2 : sizes.length ≤ S.length := by omega
  rcases hd with hd | ⟨b, off, rfl, hb1, hb2, hb3, hcell⟩
  · rw [hd] at p2; simp at p2
  rcases gd with gd | ⟨gb, goff, rfl, gb1, gb2, gb3, gcell⟩
  · rw [gd] at hgl2; simp only [List.length_nil] at hgl2; omega
  have SC : Hid (∀ (wx : World) (j : Nat), Below w.heap.size w wx → j < sizes.length → wx.cell? ⟨b, off + j, none⟩ = some (.int .i64 (sizes.getD j 0))) := fun wx j hbx hj => by
    rw [hbx.cell (p := ⟨b, off + j, none⟩) (show b < w.heap.size by omega)]; exact hcell j hj
  have GC : Hid (∀ (wx : World) (j : Nat), Below w.heap.size w wx → j < gains.length → wx.cell? ⟨gb, goff + j, none⟩ = some (.int .i64 (gains.getD j 0))) := fun wx j hbx hj => by
    rw [hbx.cell (p := ⟨gb, goff + j, none⟩) (show gb < w.heap.size by omega)]; exact gcell j hj
  have n1 := p2.1
  have n2 := p2.2
  have r1 := p4.1
  have r2 := p4.2
  clear p1 p2 p3 p4 p5 hcell gcell hsl hS HND
  go_enter Try.func17, Try.ntmps17
  go_wp2_with fail
  refine (arePacks_any _ _ sizes gains room w HV.out hz HV'.out).mono ?_
  rintro e w' ⟨rfl, rfl⟩
  rw [hok]
  clear hok
  go_wp2_with fail
  refine HQ.out.mono ?_
  rintro e w2 ⟨u, rfl, ho2, hb2'⟩
  rcases ho2.rowOf with ⟨_, e⟩ | ⟨g2, gc2', rfl, hg1, hg2, hg3, hrow2⟩
  · rw [e] at hsl2; simp only [List.length_nil] at hsl2; omega
  have HR2 := Lib.hid hrow2
  have HB2 := Lib.hid hb2'
  have hs2 := hb2'.size
  clear ho2 hrow2 hb2'
  go_wp2_with fail
  go_loopw [2, 9, 10, 22] (fun lv ov sv kv wr => ∃ (k : Nat) (left sum : Int) (T : List Int), k ≤ S.length ∧ kv = .int .i64 k ∧ lv = .int .i64 left ∧ sv = .int .i64 sum ∧ 0 ≤ left ∧ left ≤ 1000 ∧ 0 ≤ sum ∧ sum ≤ 1000 * (k : Int) ∧ T.length ≤ k ∧ Hid (packGo sizes gains (S.drop k) left T sum = packT sizes gains room) ∧ OwnI wr w2.heap.size wr.heap.size ov T ∧ Below w2.heap.size w2 wr) (fun _ _ _ kv _ => S.length - (intOf kv).toNat)
  case atStart => exact ⟨0, room, 0, [], Nat.zero_le _, rfl, rfl, rfl, by omega, by omega, by omega, by omega, by simp, Lib.hid (by rw [HPT.out]; rfl), OwnI.nil _ _ _ (Nat.le_refl _), Below.refl _ _⟩
  case round =>
    obtain ⟨k, left, sum, T, hk, rfl, rfl, rfl, l1, l2, s1, s2, htl, H, ho, hb⟩ := hrel
    have HO := Lib.hid ho
    have HBW := Lib.hid hb
    have hs := hb.size
    have hbw := HB2.out.trans (hb.mono hs2)
    have hr2 := HR2.out.below hb HR2.out.lt
    by_cases hkl : k < S.length
    · have HD := Lib.hid (drop_cons S k hkl)
      have hx := HID.out S[k] (List.getElem_mem _)
      obtain ⟨i, hi⟩ : ∃ i : Nat, S[k] = (i : Int) := ⟨S[k].toNat, by omega⟩
      have hin : i < sizes.length := by omega
      have hig : i < gains.length := by omega
      have hck := hr2.cell hkl
      have hge : S.getD k 0 = (i : Int) := by simp [List.getD, hkl, hi]
      rw [hge] at hck
      have cs := SC.out wr i hbw hin
      have cg := GC.out wr i hbw hig
      have b1 := HP1.out _ (getD_mem hin)
      have b2 := HP5.out _ (getD_mem hig)
      have HST : Hid (packGo sizes gains (S.drop k) left T sum = if sizes.getD i 0 ≤ left then packGo sizes gains (S.drop (k + 1)) (left - sizes.getD i 0) (T ++ [(i : Int)]) (sum + gains.getD i 0) else packGo sizes gains (S.drop (k + 1)) left T sum) := by
        rw [Hid, HD.out, packGo, hi, Int.toNat_natCast]
      obtain ⟨si, hsi⟩ : ∃ x, x = sizes.getD i 0 := ⟨_, rfl⟩
      obtain ⟨gi, hgi⟩ : ∃ x, x = gains.getD i 0 := ⟨_, rfl⟩
      rw [← hsi] at cs b1 HST
      rw [← hgi] at b2 cg HST
      clear hx hi hge hr2 hb hbw ho hsi hgi HD
      by_cases hle : si ≤ left
      · go_wp2_with (at_builtin; refine wpList_app1 rfl _ _ rfl _ T rfl (i : Int) _ HO.out rfl (by constructor <;> omega) (by omega) hs ?_)
        intro v2 w3 ho2 hsm hz3 _
        have HO2 := Lib.hid ho2
        clear ho2
        go_wp2
        go_roundw
        case rel => exact ⟨k + 1, left - si, sum + gi, T ++ [(i : Int)], by omega, by go_num, by go_num, by go_num, by omega, by omega, by omega, by omega, by simp; omega, Lib.hid (by rw [← H.out, HST.out, if_pos hle]), HO2.out, HBW.out.trans (hsm.below (Nat.le_refl _) hs)⟩
        case measure => (simp [intOf]; try omega)
      · go_wp2
        go_roundw
        case rel => exact ⟨k + 1, left, sum, T, by omega, by go_num, rfl, rfl, by omega, by omega, by omega, by omega, by omega, Lib.hid (by rw [← H.out, HST.out, if_neg hle]), HO.out, HBW.out⟩
        case measure => (simp [intOf]; try omega)
    · have hE : packT sizes gains room = (T, sum) := by rw [← H.out, drop_len _ _ (by omega), packGo]
      have HE2 := Lib.hid hE
      have HSO := Lib.hid (slicesSort_any _ T wr HO.out (by omega))
      have hF : sortI T = takenTo T sizes.length := by have := HFIN.out; rw [hE] at this; exact this
      have HF := Lib.hid hF
      clear hE hF ho hr2 hb hbw
      go_wp2_with fail
      refine HSO.out.mono ?_
      rintro e w4 ⟨rfl, ho4, hbel4⟩
      rw [HF.out] at ho4
      have HO4 := Lib.hid ho4
      have HB4 := Lib.hid (hbel4 _ _ (Nat.le_refl _) HBW.out)
      clear ho4 hbel4
      go_wp2
      go_ret3
      exact ⟨_, by rw [HE.out, HE2.out]; rfl, by rw [HE.out, HE2.out]; exact HO4.out.mono hs2 (Nat.le_refl _) (Nat.le_refl _), HB2.out.trans (HB4.out.mono hs2)⟩
end Go.Proofs.Ytkankfdpodofjaa
