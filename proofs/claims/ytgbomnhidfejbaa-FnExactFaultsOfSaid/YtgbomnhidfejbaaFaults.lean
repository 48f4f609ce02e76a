/-
  FaultsOf: contracts in the reference and in the program.
-/
import Derived.Test.YtgbomnhidfejbaaFront
import Derived.Test.YtgbomnhidfejbaaStepI
namespace Go.Proofs.Ytgbomnhidfejbaa
open Go.RowKit
set_option linter.unusedVariables false

/-! ### When a page is asked for again -/
/-- the first place from i on at which asks hold x, or the length -/
def againN (asks : List Int) (x : Int) : Nat → Nat → Nat
  | 0, i => i
  | n + 1, i => if asks.getD i 0 = x then i else againN asks x n (i + 1)
def again (asks : List Int) (from_ : Nat) (x : Int) : Nat := if againN asks x (asks.length - from_) from_ < asks.length then againN asks x (asks.length - from_) from_ else 64
theorem againN_yes {asks : List Int} {x : Int} {i : Nat} (hi : i < asks.length) (h : asks.getD i 0 = x) : againN asks x (asks.length - i) i = i := by
  rw [show asks.length - i = (asks.length - (i + 1)) + 1 by omega, againN, if_pos h]
theorem againN_no {asks : List Int} {x : Int} {i : Nat} (hi : i < asks.length) (h : ¬ asks.getD i 0 = x) : againN asks x (asks.length - i) i = againN asks x (asks.length - (i + 1)) (i + 1) := by
  rw [show asks.length - i = (asks.length - (i + 1)) + 1 by omega, againN, if_neg h]
theorem againN_end (asks : List Int) (x : Int) {i : Nat} (hi : asks.length ≤ i) : againN asks x (asks.length - i) i = i := by
  rw [show asks.length - i = 0 by omega, againN]
set_option maxHeartbeats 800000 in
set_option maxRecDepth 100000 in
theorem l06Again_any {l h : Nat} (v : Value) (zs : List Int) (s : Nat) (x : Int) (w : World) (hv : Ints w l h v zs) (hs : s ≤ zs.length) (hz : zs.length ≤ 64) :
    Calls Try.prog 85 #[v, .int .i64 s, .int .i64 x] w fun e w' => e = .returned (.int .i64 (again zs s x)) ∧ w = w' := by
  obtain ⟨a, cap, rfl, hc1, hc2, hd⟩ := hv.out
  clear hv
  go_enter Try.func85, Try.ntmps85
  go_wp2_with fail
  go_loop [7] (fun i => ∃ k : Nat, k ≤ zs.length ∧ i = .int .i64 k ∧ Hid (againN zs x (zs.length - k) k = againN zs x (zs.length - s) s)) (fun i => zs.length - (intOf i).toNat)
  case atStart => exact ⟨s, hs, rfl, Lib.hid rfl⟩
  case round =>
    obtain ⟨k, hk, rfl, H⟩ := hrel
    by_cases hlt : k < zs.length
    · rcases hd with rfl | ⟨b, off, rfl, hb1, hb2, hb3, hcell⟩
      · simp at hlt
      have hck : w.cell? ⟨b, off + k, none⟩ = some (.int .i64 (zs.getD k 0)) := hcell k hlt
      obtain ⟨y, hy⟩ : ∃ y, y = zs.getD k 0 := ⟨_, rfl⟩
      rw [← hy] at hck
      have HY := Lib.hid hy
      clear hcell hy
      by_cases hx : y = x
      · have HE : Hid (again zs s x = k) := by
          have e : againN zs x (zs.length - s) s = k := by rw [← H.out]; exact againN_yes hlt (by rw [← HY.out]; exact hx)
          rw [Hid, again, e, if_pos hlt]
        have hbe : (y == x) = true := by simpa using hx
        go_wp2
        go_ret
        exact ⟨ret_int (by rw [HE.out]), rfl⟩
      · have HN : Hid (againN zs x (zs.length - k) k = againN zs x (zs.length - (k + 1)) (k + 1)) := againN_no hlt (by rw [← HY.out]; exact hx)
        have hbe : (y == x) = false := by simpa using hx
        go_wp2
        go_round
        case rel => exact ⟨k + 1, by omega, by go_num, Lib.hid (by rw [← HN.out, H.out])⟩
        case measure => (simp [intOf]; try omega)
    · have HE : Hid (again zs s x = 64) := by
        have e : againN zs x (zs.length - s) s = k := by rw [← H.out]; exact againN_end zs x (by omega)
        rw [Hid, again, e, if_neg hlt]
      go_wp2
      go_ret
      exact ⟨ret_int (by rw [HE.out]; rfl), rfl⟩
/-! ### Which page goes -/
def beats (asks : List Int) (s : Nat) (x y : Int) : Bool := decide (again asks s y < again asks s x) || (decide (again asks s x = again asks s y) && decide (x < y))
def outGo (bt : Int → Int → Bool) (room : List Int) : Nat → Nat → Nat → Nat
  | 0, _, b => b
  | n + 1, k, b => outGo bt room n (k + 1) (if bt (room.getD k 0) (room.getD b 0) then k else b)
def outOf (asks : List Int) (s : Nat) (room : List Int) : Nat := outGo (beats asks s) room (room.length - 1) 1 0
theorem outGo_yes {bt : Int → Int → Bool} {room : List Int} {m k b : Nat} (hk : k < m) (h : bt (room.getD k 0) (room.getD b 0) = true) : outGo bt room (m - k) k b = outGo bt room (m - (k + 1)) (k + 1) k := by
  rw [show m - k = (m - (k + 1)) + 1 by omega, outGo, if_pos h]
theorem outGo_no {bt : Int → Int → Bool} {room : List Int} {m k b : Nat} (hk : k < m) (h : bt (room.getD k 0) (room.getD b 0) = false) : outGo bt room (m - k) k b = outGo bt room (m - (k + 1)) (k + 1) b := by
  rw [show m - k = (m - (k + 1)) + 1 by omega, outGo, if_neg (by rw [h]; decide)]
theorem outGo_lt (bt : Int → Int → Bool) (room : List Int) : ∀ (n k b : Nat), k + n ≤ room.length → b < room.length → outGo bt room n k b < room.length := by
  intro n
  induction n with
  | zero => intro k b _ h; exact h
  | succ n ih => intro k b h1 h2; rw [outGo]; exact ih _ _ (by omega) (by split <;> omega)
set_option maxHeartbeats 2000000 in
set_option maxRecDepth 100000 in
theorem l06Out_any {l h l' h' : Nat} (v u : Value) (asks room : List Int) (s : Nat) (w : World) (hv : Ints w l h v asks) (hu : Ints w l' h' u room) (hs : s ≤ asks.length) (hz : asks.length ≤ 64) (hr0 : 0 < room.length) (hr : room.length ≤ 1000) :
    Calls Try.prog 54 #[v, .int .i64 s, u] w fun e w' => e = .returned (.int .i64 (outOf asks s room)) ∧ Drew w w' := by
  have HV := Lib.hid hv
  obtain ⟨a, cap, rfl, hc1, hc2, hd⟩ := hv.out
  obtain ⟨ua, ucap, rfl, uc1, uc2, ud⟩ := hu.out
  rcases ud with ud | ⟨b, off, rfl, hb1, hb2, hb3, hcell⟩
  · rw [ud] at hr0; simp at hr0
  have RC : Hid (∀ (wx : World) (j : Nat), Drew w wx → j < room.length → wx.cell? ⟨b, off + j, none⟩ = some (.int .i64 (room.getD j 0))) := fun wx j hD hj => by
    rw [hD.cell]; exact hcell j hj
  clear hv hu hd hcell
  go_enter Try.func54, Try.ntmps54
  go_wp2_with fail
  go_loopw [7, 8] (fun bv kv wr => ∃ (k best : Nat), 1 ≤ k ∧ k ≤ room.length ∧ best < room.length ∧ kv = .int .i64 k ∧ bv = .int .i64 best ∧ Hid (outGo (beats asks s) room (room.length - k) k best = outOf asks s room) ∧ Drew w wr) (fun _ kv _ => room.length - (intOf kv).toNat)
  case atStart => exact ⟨1, 0, by omega, by omega, hr0, rfl, rfl, Lib.hid rfl, Drew.refl _⟩
  case round =>
    obtain ⟨k, best, hk1, hk, hbs, rfl, rfl, H, hD⟩ := hrel
    have HDD := Lib.hid hD
    by_cases hkr : k < room.length
    · have ck := RC.out wr k hD hkr
      have cb := RC.out wr best hD hbs
      obtain ⟨x, hx⟩ : ∃ x, x = room.getD k 0 := ⟨_, rfl⟩
      obtain ⟨y, hy⟩ : ∃ y, y = room.getD best 0 := ⟨_, rfl⟩
      rw [← hx] at ck
      rw [← hy] at cb
      have HC1 := Lib.hid (l06Again_any _ asks s x wr (HV.out.drew hD) hs hz)
      have HC2 := Lib.hid (l06Again_any _ asks s y wr (HV.out.drew hD) hs hz)
      have HBT : Hid (beats asks s x y = (decide (again asks s y < again asks s x) || (decide (again asks s x = again asks s y) && decide (x < y)))) := rfl
      have HY : Hid (beats asks s x y = true → outGo (beats asks s) room (room.length - k) k best = outGo (beats asks s) room (room.length - (k + 1)) (k + 1) k) := fun hb => outGo_yes hkr (by rw [← hx, ← hy]; exact hb)
      have HN : Hid (beats asks s x y = false → outGo (beats asks s) room (room.length - k) k best = outGo (beats asks s) room (room.length - (k + 1)) (k + 1) best) := fun hb => outGo_no hkr (by rw [← hx, ← hy]; exact hb)
      obtain ⟨p, hp⟩ : ∃ p, p = again asks s x := ⟨_, rfl⟩
      obtain ⟨q, hq⟩ : ∃ q, q = again asks s y := ⟨_, rfl⟩
      rw [← hp] at HC1 HBT
      rw [← hq] at HC2 HBT
      clear hx hy hp hq hD
      go_wp2_with fail
      refine HC1.out.mono ?_
      rintro e w' ⟨rfl, rfl⟩
      go_wp2_with fail
      refine HC2.out.mono ?_
      rintro e w' ⟨rfl, rfl⟩
      by_cases c1 : q < p
      · have hbt : beats asks s x y = true := by rw [HBT.out]; simp; omega
        have HH := Lib.hid (HY.out hbt)
        clear hbt
        go_wp2_with fail
        go_quiet (fail)
        go_wp2
        go_roundw
        case rel => exact ⟨k + 1, k, by omega, by omega, by omega, by go_num, rfl, Lib.hid (by rw [← HH.out, H.out]), HDD.out.step _⟩
        case measure => (simp [intOf]; try omega)
      have d1 : decide (q < p) = false := by simpa using c1
      by_cases c2 : p = q
      · have e2 : (p == q) = true := by simpa using c2
        have e3 : ((p : Int) == (q : Int)) = true := by simp [c2]
        by_cases c3 : x < y
        · have hbt : beats asks s x y = true := by rw [HBT.out]; simp; omega
          have HH := Lib.hid (HY.out hbt)
          clear hbt c2
          go_wp2_with fail
          go_quiet (fail)
          go_wp2
          go_roundw
          case rel => exact ⟨k + 1, k, by omega, by omega, by omega, by go_num, rfl, Lib.hid (by rw [← HH.out, H.out]), HDD.out.step _⟩
          case measure => (simp [intOf]; try omega)
        · have hbt : beats asks s x y = false := by rw [HBT.out]; simp; omega
          have HH := Lib.hid (HN.out hbt)
          clear hbt c2
          go_wp2_with fail
          go_quiet (fail)
          go_wp2
          go_roundw
          case rel => exact ⟨k + 1, best, by omega, by omega, by omega, by go_num, rfl, Lib.hid (by rw [← HH.out, H.out]), HDD.out.step _⟩
          case measure => (simp [intOf]; try omega)
      · have e2 : (p == q) = false := by simpa using c2
        have e3 : ((p : Int) == (q : Int)) = false := by simp; omega
        have hbt : beats asks s x y = false := by rw [HBT.out]; simp; omega
        have HH := Lib.hid (HN.out hbt)
        clear hbt
        go_wp2_with fail
        go_quiet (fail)
        go_wp2
        go_roundw
        case rel => exact ⟨k + 1, best, by omega, by omega, by omega, by go_num, rfl, Lib.hid (by rw [← HH.out, H.out]), HDD.out.step _⟩
        case measure => (simp [intOf]; try omega)
    · obtain rfl : k = room.length := by omega
      have hE : outOf asks s room = best := by rw [← H.out, Nat.sub_self]; rfl
      have HE := Lib.hid hE
      clear hE
      go_wp2
      go_ret
      exact ⟨ret_int (by rw [HE.out]), HDD.out⟩
/-! ### The same by what is left of the asks -/
theorem outGo_congr {bt bt' : Int → Int → Bool} {room : List Int} (h : ∀ x ∈ room, ∀ y ∈ room, bt x y = bt' x y) : ∀ (n k b : Nat), k + n ≤ room.length → b < room.length → outGo bt room n k b = outGo bt' room n k b := by
  intro n
  induction n with
  | zero => intro k b _ _; rfl
  | succ n ih =>
    intro k b h1 h2
    rw [outGo, outGo, h _ (getD_mem (show k < room.length by omega)) _ (getD_mem h2)]
    exact ih _ _ (by omega) (by split <;> omega)
theorem againN_spec (asks : List Int) (x : Int) : ∀ (n i : Nat), i + n = asks.length → i ≤ againN asks x n i ∧ againN asks x n i ≤ asks.length ∧ (againN asks x n i < asks.length → asks.getD (againN asks x n i) 0 = x) ∧ ∀ j, i ≤ j → j < againN asks x n i → asks.getD j 0 ≠ x := by
  intro n
  induction n with
  | zero => intro i h; rw [againN]; exact ⟨Nat.le_refl _, by omega, fun h' => by omega, fun j h1 h2 => by omega⟩
  | succ n ih =>
    intro i h
    rw [againN]
    split
    · rename_i hx
      exact ⟨Nat.le_refl _, by omega, fun _ => hx, fun j h1 h2 => by omega⟩
    · rename_i hx
      obtain ⟨a1, a2, a3, a4⟩ := ih (i + 1) (by omega)
      refine ⟨by omega, a2, a3, fun j h1 h2 => ?_⟩
      by_cases hj : j = i
      · subst hj; exact hx
      · exact a4 j (by omega) h2
theorem againN_drop (asks : List Int) (x : Int) (s : Nat) : ∀ (n i : Nat), againN (asks.drop s) x n i + s = againN asks x n (s + i) := by
  intro n
  induction n with
  | zero => intro i; rw [againN, againN]; omega
  | succ n ih =>
    intro i
    have e : (asks.drop s).getD i 0 = asks.getD (s + i) 0 := by simp [List.getD]
    rw [againN, againN, e]
    split
    · omega
    · rw [ih (i + 1)]; rfl
def latN (R : List Int) (x : Int) : Nat := againN R x R.length 0
def latBt (R : List Int) (x y : Int) : Bool := decide (latN R y < latN R x) || (decide (latN R x = latN R y) && decide (x < y))
theorem latN_spec (R : List Int) (x : Int) : latN R x ≤ R.length ∧ (latN R x < R.length → R.getD (latN R x) 0 = x) ∧ ∀ j, j < latN R x → R.getD j 0 ≠ x := by
  obtain ⟨a1, a2, a3, a4⟩ := againN_spec R x R.length 0 (by omega)
  exact ⟨a2, a3, fun j h => a4 j (Nat.zero_le _) h⟩
theorem beats_lat {asks : List Int} {s : Nat} (hs : s ≤ asks.length) (hz : asks.length ≤ 64) (x y : Int) : beats asks s x y = latBt (asks.drop s) x y := by
  have e : ∀ z, latN (asks.drop s) z + s = againN asks z (asks.length - s) s := fun z => by
    rw [latN, againN_drop, List.length_drop]; rfl
  have b : ∀ z, againN asks z (asks.length - s) s ≤ asks.length := fun z => (againN_spec asks z (asks.length - s) s (by omega)).2.1
  have ex := e x
  have ey := e y
  have bx := b x
  have by' := b y
  unfold beats latBt again
  rw [Bool.eq_iff_iff]
  simp only [Bool.or_eq_true, Bool.and_eq_true, decide_eq_true_eq]
  split <;> split <;> omega
theorem again_next {asks : List Int} {s : Nat} (hs : s < asks.length) {x : Int} (h : asks.getD s 0 ≠ x) : again asks s x = again asks (s + 1) x := by
  unfold again
  rw [againN_no hs h]
theorem outOf_lat {asks room : List Int} {s : Nat} (hs : s < asks.length) (hz : asks.length ≤ 64) (hr : 0 < room.length) (hn : ∀ x ∈ room, asks.getD s 0 ≠ x) : outOf asks s room = outGo (latBt (asks.drop (s + 1))) room (room.length - 1) 1 0 := by
  refine outGo_congr (fun x hx y hy => ?_) _ _ _ (by omega) hr
  rw [← beats_lat (by omega) hz]
  unfold beats
  rw [again_next hs (hn x hx), again_next hs (hn y hy)]
set_option maxHeartbeats 2000000 in
set_option maxRecDepth 100000 in
theorem latest_any {l h : Nat} (u : Value) (room R : List Int) (b off c : Nat) (w : World) (hu : Ints w l h u room) (hr0 : 0 < room.length) (hr : room.length ≤ 1000) (hR : R.length ≤ 64) (hc : R.length ≤ c)
    (hcell : ∀ j, j < R.length → w.cell? ⟨b, off + j, none⟩ = some (.int .i64 (R.getD j 0))) :
    Calls Try.prog 60 #[u, .slice (some ⟨b, off, none⟩) R.length c] w fun e w' => e = .returned (.int .i64 (outGo (latBt R) room (room.length - 1) 1 0)) ∧ w' = w := by
  obtain ⟨ua, ucap, rfl, uc1, uc2, ud⟩ := hu.out
  rcases ud with ud | ⟨gb, goff, rfl, hb1, hb2, hb3, gcell⟩
  · rw [ud] at hr0; simp at hr0
  have RC : Hid (∀ (j : Nat), j < room.length → w.cell? ⟨gb, goff + j, none⟩ = some (.int .i64 (room.getD j 0))) := fun j hj => gcell j hj
  have IX : Hid (∀ x, Calls Try.prog 57 #[.slice (some ⟨b, off, none⟩) R.length c, .int .i64 x] w fun e w' => e = .returned (.int .i64 (if latN R x < R.length then (latN R x : Int) else -1)) ∧ w' = w) := fun x => by
    have h := slicesIndex_any b off R.length c R x w (Nat.le_refl _) (by omega) hcell
    obtain ⟨a1, a2, a3⟩ := latN_spec R x
    by_cases hl : latN R x < R.length
    · rw [Lib.idxOf_hit R R.length (latN R x) x hl (Nat.le_refl _) (a2 hl) a3] at h
      rw [if_pos hl]; exact h
    · rw [Lib.idxOf_miss R R.length x (fun j hj => a3 j (by omega))] at h
      rw [if_neg hl]; exact h
  clear hu gcell hcell
  go_enter Try.func60, Try.ntmps60
  go_wp2_with fail
  go_loop [5, 6, 12] (fun bv fv kv => ∃ (k : Nat), k ≤ room.length ∧ kv = .int .i64 k ∧ ((k = 0 ∧ bv = .int .i64 (-1) ∧ fv = .int .i64 (-1)) ∨ (0 < k ∧ ∃ best : Nat, best < room.length ∧ bv = .int .i64 best ∧ fv = .int .i64 (latN R (room.getD best 0)) ∧ Hid (outGo (latBt R) room (room.length - k) k best = outGo (latBt R) room (room.length - 1) 1 0)))) (fun _ _ kv => room.length - (intOf kv).toNat)
  case atStart => exact ⟨0, Nat.zero_le _, rfl, .inl ⟨rfl, rfl, rfl⟩⟩
  case round =>
    obtain ⟨k, hk, rfl, hcase⟩ := hrel
    by_cases hkr : k < room.length
    · have ck := RC.out k hkr
      obtain ⟨x, hx⟩ : ∃ x, x = room.getD k 0 := ⟨_, rfl⟩
      rw [← hx] at ck
      have HX := Lib.hid hx
      have HIX := Lib.hid (IX.out x)
      have hlx := (latN_spec R x).1
      have HLP : Hid (latN R (room.getD k 0) = latN R x) := by rw [Hid, ← HX.out]
      obtain ⟨p, hp⟩ : ∃ p, p = latN R x := ⟨_, rfl⟩
      rw [← hp] at HIX hlx HLP
      have HP := Lib.hid hp
      clear hx hp
      rcases hcase with ⟨rfl, rfl, rfl⟩ | ⟨hk0, best, hbs, rfl, rfl, H⟩
      · have ck0 : w.cell? ⟨gb, goff, none⟩ = some (.int .i64 x) := by simpa using ck
        by_cases hpl : p < R.length
        · rw [if_pos hpl] at HIX
          go_wp2_with fail
          refine HIX.out.mono ?_
          rintro e w' ⟨rfl, rfl⟩
          have hnn : ¬ ((p : Int) < 0) := by omega
          have hgt : (-1 : Int) < (p : Int) := by omega
          go_wp2
          go_round
          case rel => exact ⟨1, by omega, by go_num, .inr ⟨by omega, 0, by omega, rfl, by rw [HLP.out], Lib.hid rfl⟩⟩
          case measure => (simp [intOf]; try omega)
        · rw [if_neg hpl] at HIX
          obtain rfl : p = R.length := by omega
          go_wp2_with fail
          refine HIX.out.mono ?_
          rintro e w' ⟨rfl, rfl⟩
          have hgt : (-1 : Int) < (R.length : Int) := by omega
          go_wp2
          go_round
          case rel => exact ⟨1, by omega, by go_num, .inr ⟨by omega, 0, by omega, rfl, by rw [HLP.out], Lib.hid rfl⟩⟩
          case measure => (simp [intOf]; try omega)
      · have cb := RC.out best hbs
        obtain ⟨y, hy⟩ : ∃ y, y = room.getD best 0 := ⟨_, rfl⟩
        rw [← hy] at cb
        have HBT : Hid (latBt R x y = (decide (latN R y < latN R x) || (decide (latN R x = latN R y) && decide (x < y)))) := rfl
        have HY : Hid (latBt R x y = true → outGo (latBt R) room (room.length - k) k best = outGo (latBt R) room (room.length - (k + 1)) (k + 1) k) := fun hb => outGo_yes hkr (by rw [← HX.out, ← hy]; exact hb)
        have HN : Hid (latBt R x y = false → outGo (latBt R) room (room.length - k) k best = outGo (latBt R) room (room.length - (k + 1)) (k + 1) best) := fun hb => outGo_no hkr (by rw [← HX.out, ← hy]; exact hb)
        obtain ⟨q, hq⟩ : ∃ q, q = latN R y := ⟨_, rfl⟩
        rw [← HP.out, ← hq] at HBT
        have HLQ : Hid (latN R (room.getD best 0) = q) := by rw [Hid, ← hy, ← hq]
        rw [HLQ.out]
        clear hy hq
        by_cases hpl : p < R.length
        · rw [if_pos hpl] at HIX
          go_wp2_with fail
          refine HIX.out.mono ?_
          rintro e w' ⟨rfl, rfl⟩
          have hnn : ¬ ((p : Int) < 0) := by omega
          by_cases c1 : q < p
          · have hbt : latBt R x y = true := by rw [HBT.out]; simp; omega
            have HH := Lib.hid (HY.out hbt)
            clear hbt
            go_wp2
            go_round
            case rel => exact ⟨k + 1, by omega, by go_num, .inr ⟨by omega, k, by omega, rfl, by rw [HLP.out], Lib.hid (by rw [← HH.out, H.out])⟩⟩
            case measure => (simp [intOf]; try omega)
          have d1 : decide (q < p) = false := by simpa using c1
          by_cases c2 : p = q
          · have e2 : (p == q) = true := by simpa using c2
            have e3 : ((p : Int) == (q : Int)) = true := by simp [c2]
            by_cases c3 : x < y
            · have hbt : latBt R x y = true := by rw [HBT.out]; simp; omega
              have HH := Lib.hid (HY.out hbt)
              clear hbt c2
              go_wp2
              go_round
              case rel => exact ⟨k + 1, by omega, by go_num, .inr ⟨by omega, k, by omega, rfl, by rw [HLP.out], Lib.hid (by rw [← HH.out, H.out])⟩⟩
              case measure => (simp [intOf]; try omega)
            · have hbt : latBt R x y = false := by rw [HBT.out]; simp; omega
              have HH := Lib.hid (HN.out hbt)
              clear hbt c2
              go_wp2
              go_round
              case rel => exact ⟨k + 1, by omega, by go_num, .inr ⟨by omega, best, by omega, rfl, by rw [HLQ.out], Lib.hid (by rw [← HH.out, H.out])⟩⟩
              case measure => (simp [intOf]; try omega)
          · have e2 : (p == q) = false := by simpa using c2
            have e3 : ((p : Int) == (q : Int)) = false := by simp; omega
            have hbt : latBt R x y = false := by rw [HBT.out]; simp; omega
            have HH := Lib.hid (HN.out hbt)
            clear hbt
            go_wp2
            go_round
            case rel => exact ⟨k + 1, by omega, by go_num, .inr ⟨by omega, best, by omega, rfl, by rw [HLQ.out], Lib.hid (by rw [← HH.out, H.out])⟩⟩
            case measure => (simp [intOf]; try omega)
        · rw [if_neg hpl] at HIX
          obtain rfl : p = R.length := by omega
          go_wp2_with fail
          refine HIX.out.mono ?_
          rintro e w' ⟨rfl, rfl⟩
          by_cases c1 : q < R.length
          · have hbt : latBt R x y = true := by rw [HBT.out]; simp; omega
            have HH := Lib.hid (HY.out hbt)
            clear hbt
            go_wp2
            go_round
            case rel => exact ⟨k + 1, by omega, by go_num, .inr ⟨by omega, k, by omega, rfl, by rw [HLP.out], Lib.hid (by rw [← HH.out, H.out])⟩⟩
            case measure => (simp [intOf]; try omega)
          have d1 : decide (q < R.length) = false := by simpa using c1
          by_cases c2 : R.length = q
          · have e2 : (R.length == q) = true := by simpa using c2
            have e3 : ((R.length : Int) == (q : Int)) = true := by simp [c2]
            by_cases c3 : x < y
            · have hbt : latBt R x y = true := by rw [HBT.out]; simp; omega
              have HH := Lib.hid (HY.out hbt)
              clear hbt c2
              go_wp2
              go_round
              case rel => exact ⟨k + 1, by omega, by go_num, .inr ⟨by omega, k, by omega, rfl, by rw [HLP.out], Lib.hid (by rw [← HH.out, H.out])⟩⟩
              case measure => (simp [intOf]; try omega)
            · have hbt : latBt R x y = false := by rw [HBT.out]; simp; omega
              have HH := Lib.hid (HN.out hbt)
              clear hbt c2
              go_wp2
              go_round
              case rel => exact ⟨k + 1, by omega, by go_num, .inr ⟨by omega, best, by omega, rfl, by rw [HLQ.out], Lib.hid (by rw [← HH.out, H.out])⟩⟩
              case measure => (simp [intOf]; try omega)
          · have e2 : (R.length == q) = false := by simpa using c2
            have e3 : ((R.length : Int) == (q : Int)) = false := by simp; omega
            have hbt : latBt R x y = false := by rw [HBT.out]; simp; omega
            have HH := Lib.hid (HN.out hbt)
            clear hbt
            go_wp2
            go_round
            case rel => exact ⟨k + 1, by omega, by go_num, .inr ⟨by omega, best, by omega, rfl, by rw [HLQ.out], Lib.hid (by rw [← HH.out, H.out])⟩⟩
            case measure => (simp [intOf]; try omega)
    · rcases hcase with ⟨rfl, rfl, rfl⟩ | ⟨hk0, best, hbs, rfl, rfl, H⟩
      · omega
      · obtain rfl : k = room.length := by omega
        have hE : outGo (latBt R) room (room.length - 1) 1 0 = best := by rw [← H.out, Nat.sub_self]; rfl
        have HE := Lib.hid hE
        clear hE
        go_wp2
        go_ret
        exact ⟨ret_int (by rw [HE.out]), rfl⟩
/-! ### The faults -/
def eraseAt (L : List Int) (k : Nat) : List Int := L.take k ++ L.drop (k + 1)
theorem eraseAt_len {L : List Int} {k : Nat} (h : k < L.length) : (eraseAt L k).length = L.length - 1 := by simp [eraseAt]; omega
theorem eraseAt_sub (L : List Int) (k : Nat) : (eraseAt L k).Sublist L := by
  have h : (L.take k ++ L.drop (k + 1)).Sublist (L.take k ++ L.drop k) := List.Sublist.append_left (by rw [← List.drop_drop]; exact List.drop_sublist _ _) _
  rw [List.take_append_drop] at h
  exact h
theorem nodup_getD {L : List Int} (h : L.Nodup) {i j : Nat} (hi : i < L.length) (hj : j < L.length) (e : L.getD i 0 = L.getD j 0) : i = j := by
  simp only [List.getD, List.getElem?_eq_getElem hi, List.getElem?_eq_getElem hj, Option.getD_some] at e
  rw [List.Nodup, List.pairwise_iff_getElem] at h
  rcases Nat.lt_trichotomy i j with c | c | c
  · exact absurd e (h i j hi hj c)
  · exact c
  · exact absurd e.symm (h j i hj hi c)
theorem posOf_nodup {L : List Int} (h : L.Nodup) {k : Nat} {x : Int} (hk : k < L.length) (hx : L.getD k 0 = x) : posOf L x = k :=
  posOf_eq hk hx fun j hj e => by have := nodup_getD h (show j < L.length by omega) hk (by rw [e, hx]); omega
def roomOut (asks : List Int) (rule : Int) (i : Nat) (now : List Int) : Nat := if rule = 2 then outGo (latBt (asks.drop (i + 1))) now (now.length - 1) 1 0 else 0
def faultGo (asks : List Int) (room rule : Int) : Nat → Nat → List Int → Int → Int
  | 0, _, _, c => c
  | n + 1, i, now, c =>
    if hasI now (asks.getD i 0) then faultGo asks room rule n (i + 1) (if rule = 1 then eraseAt now (posOf now (asks.getD i 0)) ++ [asks.getD i 0] else now) c
    else faultGo asks room rule n (i + 1) ((if (now.length : Int) = room then eraseAt now (roomOut asks rule i now) else now) ++ [asks.getD i 0]) (c + 1)
theorem faultGo_in {asks : List Int} {room rule : Int} {i : Nat} {now : List Int} {c : Int} (hi : i < asks.length) (h : hasI now (asks.getD i 0) = true) :
    faultGo asks room rule (asks.length - i) i now c = faultGo asks room rule (asks.length - (i + 1)) (i + 1) (if rule = 1 then eraseAt now (posOf now (asks.getD i 0)) ++ [asks.getD i 0] else now) c := by
  rw [show asks.length - i = (asks.length - (i + 1)) + 1 by omega, faultGo, if_pos h]
theorem faultGo_out {asks : List Int} {room rule : Int} {i : Nat} {now : List Int} {c : Int} (hi : i < asks.length) (h : hasI now (asks.getD i 0) = false) :
    faultGo asks room rule (asks.length - i) i now c = faultGo asks room rule (asks.length - (i + 1)) (i + 1) ((if (now.length : Int) = room then eraseAt now (roomOut asks rule i now) else now) ++ [asks.getD i 0]) (c + 1) := by
  rw [show asks.length - i = (asks.length - (i + 1)) + 1 by omega, faultGo, if_neg (by rw [h]; decide)]
def okFaults (asks : List Int) (room rule : Int) : Bool := (asks.all (inB 0 63) && inB 1 64 (asks.length : Int)) && (inB 1 16 room && inB 0 2 rule)
def faultsOf (asks : List Int) (room rule : Int) : Int × Bool := if okFaults asks room rule then (faultGo asks room rule asks.length 0 [] 0, true) else (0, false)
/-- what the room is in every round: no page twice, pages only, no more than fit -/
structure Room (room : Int) (now : List Int) : Prop where
  nd : now.Nodup
  rng : ∀ x ∈ now, 0 ≤ x ∧ x ≤ 63
  le : (now.length : Int) ≤ room
theorem Room.nil {room : Int} (h : 1 ≤ room) : Room room [] := ⟨List.nodup_nil, by simp, by simp; omega⟩
theorem Room.moved {room : Int} {now : List Int} (h : Room room now) {x : Int} (hx : hasI now x = true) : Room room (eraseAt now (posOf now x) ++ [x]) := by
  have hm := (hasI_iff now x).1 hx
  obtain ⟨p1, p2, _⟩ := posOf_spec hm
  have hs := eraseAt_sub now (posOf now x)
  refine ⟨?_, ?_, ?_⟩
  · rw [List.nodup_append]
    refine ⟨h.nd.sublist hs, by simp, fun a ha b hb => ?_⟩
    rw [List.mem_singleton] at hb
    subst hb
    rintro rfl
    rcases List.mem_append.1 ha with ha | ha
    · obtain ⟨j, hj, e⟩ := List.mem_iff_getElem.1 ha
      have hj2 : j < posOf now a := by simp at hj; omega
      have hj3 : j < now.length := by omega
      have e2 : now.getD j 0 = a := by rw [List.getElem_take] at e; simp [List.getD, hj3, e]
      have := nodup_getD h.nd hj3 p1 (by rw [e2, p2]); omega
    · obtain ⟨j, hj, e⟩ := List.mem_iff_getElem.1 ha
      have hj3 : posOf now a + 1 + j < now.length := by simp at hj; omega
      have e2 : now.getD (posOf now a + 1 + j) 0 = a := by rw [List.getElem_drop] at e; simp [List.getD, hj3, e]
      have := nodup_getD h.nd hj3 p1 (by rw [e2, p2]); omega
  · intro y hy
    rcases List.mem_append.1 hy with hy | hy
    · exact h.rng y (hs.subset hy)
    · rw [List.mem_singleton] at hy; subst hy; exact h.rng y hm
  · have := h.le
    rw [List.length_append, eraseAt_len p1]; simp; omega
theorem Room.taken {room : Int} {now : List Int} (h : Room room now) {x : Int} (hx : hasI now x = false) (b : 0 ≤ x ∧ x ≤ 63) {k : Nat} (hr : 1 ≤ room) (hk : (now.length : Int) = room → k < now.length) :
    Room room ((if (now.length : Int) = room then eraseAt now k else now) ++ [x]) := by
  have hn : x ∉ now := fun hm => by rw [← hasI_iff] at hm; rw [hm] at hx; cases hx
  have hs : (if (now.length : Int) = room then eraseAt now k else now).Sublist now := by
    split
    · exact eraseAt_sub now k
    · exact List.Sublist.refl _
  refine ⟨?_, ?_, ?_⟩
  · rw [List.nodup_append]
    refine ⟨h.nd.sublist hs, by simp, fun a ha c hc => ?_⟩
    rw [List.mem_singleton] at hc
    subst hc
    rintro rfl
    exact hn (hs.subset ha)
  · intro y hy
    rcases List.mem_append.1 hy with hy | hy
    · exact h.rng y (hs.subset hy)
    · rw [List.mem_singleton] at hy; subst hy; exact b
  · have := h.le
    rw [List.length_append]
    split
    · rename_i e
      rw [eraseAt_len (hk e)]; simp; omega
    · simp; omega
theorem rowI_init {w : World} {lo g n c : Nat} {L : List Int} {y : Int} (h : RowI w lo g n c (L ++ [y])) : RowI w lo g (n - 1) c L := by
  have hl := h.length
  simp only [List.length_append, List.length_cons, List.length_nil] at hl
  obtain ⟨cur, k1, k2, k3, k4⟩ := rowI_block h
  refine ⟨⟨by simp; omega, .inr ⟨g, c, cur, rfl, h.ge, k1, by omega, k3, by simpa using k4, ?_⟩⟩⟩
  rcases h.row.row.2 with ⟨e, _⟩ | ⟨g', c', cur', e, h1, h2, h3, h4, h5, h6⟩
  · cases e
  · injection e with e1 _ e3
    injection e1 with e1
    injection e1 with e1
    subst e1
    rw [k1] at h2
    injection h2 with h2
    injection h2 with h2
    subst h2
    have : (cur.toList.take (n * 1)).take ((n - 1) * 1) = ((L ++ [y]).map (Value.int .i64)).take (n - 1) := by rw [h6, Nat.mul_one]
    rw [List.take_take, show min ((n - 1) * 1) (n * 1) = (n - 1) * 1 by omega] at this
    rw [this, List.map_append, List.take_append_of_le_length (by simp; omega), List.take_of_length_le (by simp; omega)]
theorem slicesIndexOwn_any {lo hi : Nat} (v : Value) (now : List Int) (x : Int) (w : World) (ho : OwnI w lo hi v now) (hn : now.length ≤ 1000) :
    Calls Try.prog 57 #[v, .int .i64 x] w fun e w' => e = .returned (.int .i64 (if hasI now x then (posOf now x : Int) else -1)) ∧ w' = w := by
  rcases ho.rowOf with ⟨rfl, rfl⟩ | ⟨g, gc, rfl, hg1, hg2, hg3, hrow⟩
  · exact AnyG.slices_Index_int_empty layIndex none 0 x w
  · have h := slicesIndex_any g 0 now.length gc now x w (Nat.le_refl _) (by omega) (fun j hj => by rw [Nat.zero_add]; exact hrow.cell hj)
    cases hh : hasI now x
    · have hm : x ∉ now := fun hm => by rw [← hasI_iff] at hm; rw [hm] at hh; cases hh
      rw [Lib.idxOf_miss now now.length x (fun j hj e => hm (by rw [← e]; exact getD_mem hj))] at h
      exact h
    · obtain ⟨p1, p2, p3⟩ := posOf_spec ((hasI_iff now x).1 hh)
      rw [Lib.idxOf_hit now now.length (posOf now x) x p1 (Nat.le_refl _) p2 p3] at h
      exact h
theorem faults_no {asks : List Int} {room rule : Int} (h : okFaults asks room rule = false) : faultsOf asks room rule = (0, false) := by simp [faultsOf, h]
set_option maxHeartbeats 2000000 in
set_option maxRecDepth 100000 in
theorem implFaultsOf_any (w : World) {l h : Nat} (v : Value) (asks : List Int) (room rule : Int) (hv : Ints w l h v asks) (hh : h ≤ w.heap.size) (hz : asks.length ≤ 1048576) (kr : I64 room) (kl : I64 rule) :
    Calls Try.prog 22 #[v, .int .i64 room, .int .i64 rule] w fun e w' => e = .returned (.tuple #[.int .i64 (faultsOf asks room rule).1, .bool (faultsOf asks room rule).2]) ∧ Below w.heap.size w w' := by
  have HV := Lib.hid hv
  obtain ⟨a, cap, rfl, hc1, hc2, hd⟩ := hv.out
  clear hv
  cases hA : (inB 1 64 (asks.length : Int) && asks.all (inB 0 63))
  · have HE := Lib.hid (faults_no (show okFaults asks room rule = false by rw [okFaults, Bool.and_comm (asks.all _), hA]; rfl))
    go_enter Try.func22, Try.ntmps22
    go_wp2_with fail
    refine (areAsks_any _ asks _ HV.out hz).mono ?_
    rintro e w' ⟨rfl, rfl⟩
    rw [hA]
    go_wp2
    go_ret2
    exact ⟨by rw [HE.out]; rfl, Below.refl _ _⟩
  cases hR : inB 1 16 room
  · have HE := Lib.hid (faults_no (show okFaults asks room rule = false by rw [okFaults, hR, Bool.false_and, Bool.and_false]))
    go_enter Try.func22, Try.ntmps22
    go_wp2_with fail
    refine (areAsks_any _ asks _ HV.out hz).mono ?_
    rintro e w' ⟨rfl, rfl⟩
    rw [hA]
    go_wp2_with fail
    refine (within_any _ _ _ _).mono ?_
    rintro e w' ⟨rfl, rfl⟩
    rw [hR]
    go_wp2
    go_ret2
    exact ⟨by rw [HE.out]; rfl, Below.refl _ _⟩
  cases hL : inB 0 2 rule
  · have HE := Lib.hid (faults_no (show okFaults asks room rule = false by rw [okFaults, hL, Bool.and_false, Bool.and_false]))
    go_enter Try.func22, Try.ntmps22
    go_wp2_with fail
    refine (areAsks_any _ asks _ HV.out hz).mono ?_
    rintro e w' ⟨rfl, rfl⟩
    rw [hA]
    go_wp2_with fail
    refine (within_any _ _ _ _).mono ?_
    rintro e w' ⟨rfl, rfl⟩
    rw [hR]
    go_wp2_with fail
    refine (within_any _ _ _ _).mono ?_
    rintro e w' ⟨rfl, rfl⟩
    rw [hL]
    go_wp2
    go_ret2
    exact ⟨by rw [HE.out]; rfl, Below.refl _ _⟩
  have hok : okFaults asks room rule = true := by rw [okFaults, Bool.and_comm (asks.all _), hA, hR, hL]; rfl
  have HE := Lib.hid (show faultsOf asks room rule = (faultGo asks room rule asks.length 0 [] 0, true) by simp [faultsOf, hok])
  simp only [Bool.and_eq_true, List.all_eq_true] at hA
  have a1 := inB_true hA.1
  have HP : Hid (∀ x ∈ asks, 0 ≤ x ∧ x ≤ 63) := fun x hx => inB_true (hA.2 x hx)
  have hA' : (inB 1 64 (asks.length : Int) && asks.all (inB 0 63)) = true := by simp only [Bool.and_eq_true, List.all_eq_true]; exact hA
  have br := inB_true hR
  have bl := inB_true hL
  have hn0 : 0 < asks.length := by omega
  have hn64 : asks.length ≤ 64 := by omega
  rcases hd with hd | ⟨b, off, rfl, hb1, hb2, hb3, hcell⟩
  · rw [hd] at hn0; simp at hn0
  have AC : Hid (∀ (wx : World) (j : Nat), Below w.heap.size w wx → j < asks.length → wx.cell? ⟨b, off + j, none⟩ = some (.int .i64 (asks.getD j 0))) := fun wx j hbx hj => by
    rw [hbx.cell (p := ⟨b, off + j, none⟩) (show b < w.heap.size by omega)]; exact hcell j hj
  clear hcell hA hok
  go_enter Try.func22, Try.ntmps22
  go_wp2_with fail
  refine (areAsks_any _ asks _ HV.out hz).mono ?_
  rintro e w' ⟨rfl, rfl⟩
  rw [hA']
  go_wp2_with fail
  refine (within_any _ _ _ _).mono ?_
  rintro e w' ⟨rfl, rfl⟩
  rw [hR]
  go_wp2_with fail
  refine (within_any _ _ _ _).mono ?_
  rintro e w' ⟨rfl, rfl⟩
  rw [hL]
  clear hA' hR hL
  go_wp2_with fail
  go_loopw [8, 9, 29] (fun ov cv iv wr => ∃ (k : Nat) (now : List Int) (c : Int), k ≤ asks.length ∧ iv = .int .i64 k ∧ cv = .int .i64 c ∧ 0 ≤ c ∧ c ≤ (k : Int) ∧ Hid (faultGo asks room rule (asks.length - k) k now c = faultGo asks room rule asks.length 0 [] 0) ∧ Hid (Room room now) ∧ OwnI wr w.heap.size wr.heap.size ov now ∧ Below w.heap.size w wr) (fun _ _ iv _ => asks.length - (intOf iv).toNat)
  case atStart => exact ⟨0, [], 0, Nat.zero_le _, rfl, rfl, by omega, by omega, Lib.hid rfl, Lib.hid (Room.nil br.1), OwnI.nil _ _ _ (Nat.le_refl _), Below.refl _ _⟩
  case round =>
    obtain ⟨k, now, c, hk, rfl, rfl, c0, c1, H, HRM, ho, hb⟩ := hrel
    have HO := Lib.hid ho
    have HB := Lib.hid hb
    have hs := hb.size
    by_cases hkn : k < asks.length
    · have ck := AC.out wr k hb hkn
      have hx := HP.out _ (getD_mem hkn)
      have hnl : (now.length : Int) ≤ room := HRM.out.le
      have hnl2 : now.length ≤ 16 := by omega
      obtain ⟨x, hxx⟩ : ∃ x, x = asks.getD k 0 := ⟨_, rfl⟩
      rw [← hxx] at ck hx
      have HXX := Lib.hid hxx
      have HIX := Lib.hid (slicesIndexOwn_any _ now x wr ho (by omega))
      have hx1 := hx.1
      have hx2 := hx.2
      cases hin : hasI now x
      · have HG := Lib.hid (faultGo_out (room := room) (rule := rule) (c := c) hkn (by rw [← hxx]; exact hin))
        rw [← hxx] at HG
        rw [hin, if_neg Bool.false_ne_true] at HIX
        by_cases hf : (now.length : Int) = room
        · have hn1 : 0 < now.length := by omega
          rcases ho.rowOf with ⟨_, e⟩ | ⟨g, gc, rfl, hg1, hg2, hg3, hrow⟩
          · rw [e] at hn1; simp at hn1
          have hgl : w.heap.size ≤ g := hrow.ge
          by_cases hr2 : rule = 2
          · subst hr2
            have hol := outGo_lt (latBt (asks.drop (k + 1))) now (now.length - 1) 1 0 (by omega) hn1
            have hro : roomOut asks 2 k now = outGo (latBt (asks.drop (k + 1))) now (now.length - 1) 1 0 := if_pos rfl
            obtain ⟨o, hoE⟩ : ∃ o, o = outGo (latBt (asks.drop (k + 1))) now (now.length - 1) 1 0 := ⟨_, rfl⟩
            have hRl : (asks.drop (k + 1)).length = asks.length - (k + 1) := List.length_drop
            have HLA := Lib.hid (latest_any _ now (asks.drop (k + 1)) b (off + (k + 1)) (cap - (k + 1)) wr ho.rd hn1 (by omega) (by omega) (by omega) (fun j hj => by
              have := AC.out wr (k + 1 + j) hb (by omega)
              rw [show off + (k + 1) + j = off + (k + 1 + j) by omega, this]; simp [List.getD]))
            rw [← hoE, hRl] at HLA
            rw [← hoE] at hol hro
            have HT := Lib.hid (HRM.out.taken hin hx (k := o) br.1 (fun _ => hol))
            rw [if_pos hf] at HT
            have HG1 : Hid (faultGo asks room 2 (asks.length - k) k now c = faultGo asks room 2 (asks.length - (k + 1)) (k + 1) (eraseAt now o ++ [x]) (c + 1)) := by rw [Hid, HG.out, if_pos hf, hro]
            have HDL := Lib.hid (slicesDelete_any o wr hrow hol)
            obtain ⟨nl, hnle⟩ : ∃ nl, nl = now.length - 1 := ⟨_, rfl⟩
            rw [← hnle] at HDL
            have HNL : Hid ((eraseAt now o).length = nl) := by rw [Hid, hnle]; exact eraseAt_len hol
            have HRNG : Hid (∀ z ∈ eraseAt now o, I64 z) := fun z hz => by
              have := HRM.out.rng z ((eraseAt_sub now o).subset hz); unfold I64; omega
            have hnlb : nl ≤ 16 := by omega
            by_cases hcap : cap = k + 1
            · have hRn : asks.drop (k + 1) = [] := List.eq_nil_of_length_eq_zero (by omega)
              have e0 : asks.length - (k + 1) = 0 := by omega
              have HLA0 := Lib.hid (latest_any _ now [] b off 0 wr ho.rd hn1 (by omega) (by simp) (by simp) (fun j hj => by simp at hj))
              rw [← hRn, ← hoE] at HLA0
              rw [hRn] at HLA0
              clear hin ho hb hxx hx hrow hnle hro HG hoE hRl HLA hRn
              subst hf
              subst hcap
              go_wp2_with fail
              refine HIX.out.mono ?_
              rintro e w' ⟨rfl, rfl⟩
              go_wp2_with fail
              refine (size_any _ (by omega) _).mono ?_
              rintro e w' ⟨rfl, rfl⟩
              go_wp2_with fail
              refine HLA0.out.mono ?_
              rintro e w' ⟨rfl, rfl⟩
              go_wp2_with fail
              refine HDL.out.mono ?_
              rintro e w5 ⟨rfl, hr5, hbel5⟩
              have HB5 := Lib.hid (hbel5 _ _ hgl HB.out)
              have hs5 := HB5.out.size
              have HRI := Lib.hid (rowI_init (show RowI w5 w.heap.size g now.length gc (eraseAt now o ++ [0]) from hr5))
              have HOW : Hid (OwnI w5 w.heap.size w5.heap.size (.slice (some ⟨g, 0, none⟩) nl gc) (eraseAt now o)) := by
                have hri := HRI.out
                have e : now.length - 1 = nl := by have := hri.length; rw [HNL.out] at this; exact this.symm
                rw [e] at hri
                exact hri.own HRNG.out (by omega) hri.lt (Nat.le_refl _)
              clear hr5 hbel5
              have hel : (eraseAt now o).length ≤ 16 := by rw [HNL.out]; exact hnlb
              go_wp2_with (at_builtin; refine wpList_app1 rfl _ _ rfl _ (eraseAt now o) rfl x _ HOW.out rfl (by unfold I64; omega) (by omega) hs5 ?_)
              intro v2 w3 ho2 hsm hz3 _
              have HO2 := Lib.hid ho2
              clear ho2
              go_wp2
              go_roundw
              case rel => exact ⟨k + 1, eraseAt now o ++ [x], c + 1, by omega, by go_num, by go_num, by omega, by omega, Lib.hid (by rw [← HG1.out, H.out]), HT, HO2.out, HB5.out.trans (hsm.below (Nat.le_refl _) hs5)⟩
              case measure => (simp [intOf]; try omega)
            clear hin ho hb hxx hx hrow hnle hro HG hoE hRl
            subst hf
            go_wp2_with fail
            refine HIX.out.mono ?_
            rintro e w' ⟨rfl, rfl⟩
            go_wp2_with fail
            refine (size_any _ (by omega) _).mono ?_
            rintro e w' ⟨rfl, rfl⟩
            go_wp2_with fail
            refine HLA.out.mono ?_
            rintro e w' ⟨rfl, rfl⟩
            go_wp2_with fail
            refine HDL.out.mono ?_
            rintro e w5 ⟨rfl, hr5, hbel5⟩
            have HB5 := Lib.hid (hbel5 _ _ hgl HB.out)
            have hs5 := HB5.out.size
            have HRI := Lib.hid (rowI_init (show RowI w5 w.heap.size g now.length gc (eraseAt now o ++ [0]) from hr5))
            have HOW : Hid (OwnI w5 w.heap.size w5.heap.size (.slice (some ⟨g, 0, none⟩) nl gc) (eraseAt now o)) := by
              have hri := HRI.out
              have e : now.length - 1 = nl := by have := hri.length; rw [HNL.out] at this; exact this.symm
              rw [e] at hri
              exact hri.own HRNG.out (by omega) hri.lt (Nat.le_refl _)
            clear hr5 hbel5
            have hel : (eraseAt now o).length ≤ 16 := by rw [HNL.out]; exact hnlb
            go_wp2_with (at_builtin; refine wpList_app1 rfl _ _ rfl _ (eraseAt now o) rfl x _ HOW.out rfl (by unfold I64; omega) (by omega) hs5 ?_)
            intro v2 w3 ho2 hsm hz3 _
            have HO2 := Lib.hid ho2
            clear ho2
            go_wp2
            go_roundw
            case rel => exact ⟨k + 1, eraseAt now o ++ [x], c + 1, by omega, by go_num, by go_num, by omega, by omega, Lib.hid (by rw [← HG1.out, H.out]), HT, HO2.out, HB5.out.trans (hsm.below (Nat.le_refl _) hs5)⟩
            case measure => (simp [intOf]; try omega)
          · have hro : roomOut asks rule k now = 0 := if_neg hr2
            have HT := Lib.hid (HRM.out.taken hin hx (k := 0) br.1 (fun _ => hn1))
            rw [if_pos hf] at HT
            have HG1 : Hid (faultGo asks room rule (asks.length - k) k now c = faultGo asks room rule (asks.length - (k + 1)) (k + 1) (eraseAt now 0 ++ [x]) (c + 1)) := by rw [Hid, HG.out, if_pos hf, hro]
            have e2 : (rule == 2) = false := by simpa using hr2
            have HDL := Lib.hid (slicesDelete_any 0 wr hrow hn1)
            obtain ⟨nl, hnle⟩ : ∃ nl, nl = now.length - 1 := ⟨_, rfl⟩
            rw [← hnle] at HDL
            have HNL : Hid ((eraseAt now 0).length = nl) := by rw [Hid, hnle]; exact eraseAt_len hn1
            have HRNG : Hid (∀ z ∈ eraseAt now 0, I64 z) := fun z hz => by
              have := HRM.out.rng z ((eraseAt_sub now 0).subset hz); unfold I64; omega
            have hnlb : nl ≤ 16 := by omega
            have HDL2 : Hid (Calls Try.prog 58 #[.slice (some ⟨g, 0, none⟩) now.length gc, .int .i64 0, .int .i64 1] wr fun e w' => e = .returned (.slice (some ⟨g, 0, none⟩) nl gc) ∧ RowI w' w.heap.size g now.length gc (eraseAt now 0 ++ [0]) ∧ ∀ B w0, B ≤ g → Below B w0 wr → Below B w0 w') := HDL
            clear hin ho hb hxx hx hrow hnle hro HDL hr2 HG
            subst hf
            go_wp2_with fail
            refine HIX.out.mono ?_
            rintro e w' ⟨rfl, rfl⟩
            go_wp2_with fail
            refine (size_any _ (by omega) _).mono ?_
            rintro e w' ⟨rfl, rfl⟩
            go_wp2_with fail
            refine HDL2.out.mono ?_
            rintro e w5 ⟨rfl, hr5, hbel5⟩
            have HB5 := Lib.hid (hbel5 _ _ hgl HB.out)
            have hs5 := HB5.out.size
            have HRI := Lib.hid (rowI_init hr5)
            have HOW : Hid (OwnI w5 w.heap.size w5.heap.size (.slice (some ⟨g, 0, none⟩) nl gc) (eraseAt now 0)) := by
              have hri := HRI.out
              have e : now.length - 1 = nl := by have := hri.length; rw [HNL.out] at this; exact this.symm
              rw [e] at hri
              exact hri.own HRNG.out (by omega) hri.lt (Nat.le_refl _)
            clear hr5 hbel5
            have hel : (eraseAt now 0).length ≤ 16 := by rw [HNL.out]; exact hnlb
            go_wp2_with (at_builtin; refine wpList_app1 rfl _ _ rfl _ (eraseAt now 0) rfl x _ HOW.out rfl (by unfold I64; omega) (by omega) hs5 ?_)
            intro v2 w3 ho2 hsm hz3 _
            have HO2 := Lib.hid ho2
            clear ho2
            go_wp2
            go_roundw
            case rel => exact ⟨k + 1, eraseAt now 0 ++ [x], c + 1, by omega, by go_num, by go_num, by omega, by omega, Lib.hid (by rw [← HG1.out, H.out]), HT, HO2.out, HB5.out.trans (hsm.below (Nat.le_refl _) hs5)⟩
            case measure => (simp [intOf]; try omega)
        · have HT := Lib.hid (HRM.out.taken hin hx (k := 0) br.1 (fun e => absurd e hf))
          rw [if_neg hf] at HT
          have HG1 : Hid (faultGo asks room rule (asks.length - k) k now c = faultGo asks room rule (asks.length - (k + 1)) (k + 1) (now ++ [x]) (c + 1)) := by rw [Hid, HG.out, if_neg hf]
          have e2 : ((now.length : Int) == room) = false := by simpa using hf
          obtain ⟨oa, oc, rfl, _, _, _⟩ := ho.rd.out
          clear hin ho hb hxx hx hf
          go_wp2_with fail
          refine HIX.out.mono ?_
          rintro e w' ⟨rfl, rfl⟩
          go_wp2_with fail
          refine (size_any _ (by omega) _).mono ?_
          rintro e w' ⟨rfl, rfl⟩
          go_wp2_with (at_builtin; refine wpList_app1 rfl _ _ rfl _ now rfl x _ HO.out rfl (by unfold I64; omega) (by omega) hs ?_)
          intro v2 w3 ho2 hsm hz3 _
          have HO2 := Lib.hid ho2
          clear ho2
          go_wp2
          go_roundw
          case rel => exact ⟨k + 1, now ++ [x], c + 1, by omega, by go_num, by go_num, by omega, by omega, Lib.hid (by rw [← HG1.out, H.out]), HT, HO2.out, HB.out.trans (hsm.below (Nat.le_refl _) hs)⟩
          case measure => (simp [intOf]; try omega)
      · obtain ⟨p1, p2, p3⟩ := posOf_spec ((hasI_iff now x).1 hin)
        have HG := Lib.hid (faultGo_in (room := room) (rule := rule) (c := c) hkn (by rw [← hxx]; exact hin))
        rw [← hxx] at HG
        have HMV := Lib.hid (HRM.out.moved hin)
        rw [hin, if_pos rfl] at HIX
        rcases ho.rowOf with ⟨_, e⟩ | ⟨g, gc, rfl, hg1, hg2, hg3, hrow⟩
        · rw [e] at p1; simp at p1
        have hgl : w.heap.size ≤ g := hrow.ge
        obtain ⟨p, hp⟩ : ∃ p, p = posOf now x := ⟨_, rfl⟩
        rw [← hp] at HIX HG HMV p1
        have HDL := Lib.hid (slicesDelete_any p wr hrow p1)
        obtain ⟨nl, hnle⟩ : ∃ nl, nl = now.length - 1 := ⟨_, rfl⟩
        rw [← hnle] at HDL
        have HNL : Hid ((eraseAt now p).length = nl) := by rw [Hid, hnle]; exact eraseAt_len p1
        have HRNG : Hid (∀ z ∈ eraseAt now p, I64 z) := fun z hz => by
          have := HRM.out.rng z ((eraseAt_sub now p).subset hz); unfold I64; omega
        have hnlb : nl ≤ 16 := by omega
        clear hin ho hb hxx hx p2 p3 hp hrow hnle
        by_cases hr1 : rule = 1
        · subst hr1
          have HG1 : Hid (faultGo asks room 1 (asks.length - k) k now c = faultGo asks room 1 (asks.length - (k + 1)) (k + 1) (eraseAt now p ++ [x]) c) := by rw [Hid, HG.out, if_pos rfl]
          go_wp2_with fail
          refine HIX.out.mono ?_
          rintro e w' ⟨rfl, rfl⟩
          go_wp2_with fail
          refine HDL.out.mono ?_
          rintro e w5 ⟨rfl, hr5, hbel5⟩
          have HB5 := Lib.hid (hbel5 _ _ hgl HB.out)
          have hs5 := HB5.out.size
          have HRI := Lib.hid (rowI_init (show RowI w5 w.heap.size g now.length gc (eraseAt now p ++ [0]) from hr5))
          have HOW : Hid (OwnI w5 w.heap.size w5.heap.size (.slice (some ⟨g, 0, none⟩) nl gc) (eraseAt now p)) := by
            have hri := HRI.out
            have e : now.length - 1 = nl := by have := hri.length; rw [HNL.out] at this; exact this.symm
            rw [e] at hri
            exact hri.own HRNG.out (by omega) hri.lt (Nat.le_refl _)
          clear hr5 hbel5
          have hel : (eraseAt now p).length ≤ 16 := by rw [HNL.out]; exact hnlb
          go_wp2_with (at_builtin; refine wpList_app1 rfl _ _ rfl _ (eraseAt now p) rfl x _ HOW.out rfl (by unfold I64; omega) (by omega) hs5 ?_)
          intro v2 w3 ho2 hsm hz3 _
          have HO2 := Lib.hid ho2
          clear ho2
          go_wp2
          go_roundw
          case rel => exact ⟨k + 1, eraseAt now p ++ [x], c, by omega, by go_num, rfl, by omega, by omega, Lib.hid (by rw [← HG1.out, H.out]), HMV, HO2.out, HB5.out.trans (hsm.below (Nat.le_refl _) hs5)⟩
          case measure => (simp [intOf]; try omega)
        · have HG1 : Hid (faultGo asks room rule (asks.length - k) k now c = faultGo asks room rule (asks.length - (k + 1)) (k + 1) now c) := by rw [Hid, HG.out, if_neg hr1]
          have e1 : (rule == 1) = false := by simpa using hr1
          go_wp2_with fail
          refine HIX.out.mono ?_
          rintro e w' ⟨rfl, rfl⟩
          go_wp2
          go_roundw
          case rel => exact ⟨k + 1, now, c, by omega, by go_num, rfl, by omega, by omega, Lib.hid (by rw [← HG1.out, H.out]), HRM, HO.out, HB.out⟩
          case measure => (simp [intOf]; try omega)
    · obtain rfl : k = asks.length := by omega
      have hE : c = faultGo asks room rule asks.length 0 [] 0 := by rw [← H.out, Nat.sub_self, faultGo]
      have HE2 := Lib.hid hE
      clear hE ho
      go_wp2
      go_ret2
      exact ⟨by rw [HE.out, ← HE2.out]; rfl, hb⟩
theorem rowI_prefix {w : World} {lo g n c : Nat} {A B : List Int} (h : RowI w lo g n c (A ++ B)) : RowI w lo g A.length c A := by
  have hl := h.length
  rw [List.length_append] at hl
  obtain ⟨cur, k1, k2, k3, k4⟩ := rowI_block h
  refine ⟨⟨by simp, .inr ⟨g, c, cur, rfl, h.ge, k1, by omega, k3, by simpa using k4, ?_⟩⟩⟩
  rcases h.row.row.2 with ⟨e, _⟩ | ⟨g', c', cur', e, h1, h2, h3, h4, h5, h6⟩
  · cases e
  · injection e with e1 _ e3
    injection e1 with e1
    injection e1 with e1
    subst e1
    rw [k1] at h2
    injection h2 with h2
    injection h2 with h2
    subst h2
    have : (cur.toList.take (n * 1)).take (A.length * 1) = ((A ++ B).map (Value.int .i64)).take A.length := by rw [h6, Nat.mul_one]
    rw [List.take_take, show min (A.length * 1) (n * 1) = A.length * 1 by omega] at this
    rw [this, List.map_append, List.take_append_of_le_length (by simp), List.take_of_length_le (by simp)]
/-- 'now[:k]' of an own row, as an own slice -/
theorem rowI_take {w : World} {lo g n c : Nat} {L : List Int} (k : Nat) (h : RowI w lo g n c L) (hk : k ≤ n) (hr : ∀ z ∈ L, I64 z) (hn : n ≤ 1000) : OwnI w lo w.heap.size (.slice (some ⟨g, 0, none⟩) k c) (L.take k) := by
  have hl := h.length
  have h2 := rowI_prefix (A := L.take k) (B := L.drop k) (by rw [List.take_append_drop]; exact h)
  have e : (L.take k).length = k := by rw [List.length_take]; omega
  rw [e] at h2
  exact h2.own (fun z hz => hr z (List.mem_of_mem_take hz)) (by omega) h2.lt (Nat.le_refl _)
end Go.Proofs.Ytgbomnhidfejbaa
