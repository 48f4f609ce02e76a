/-
  A bound of tours: the reference's contract.
-/
import Derived.Test.YtkankfdpodofjaaTreeS
namespace Go.Proofs.Ytkankfdpodofjaa
open Go.RowKit
set_option linter.unusedVariables false
set_option maxRecDepth 100000

theorem wpList_appNew {w : World} {ops : Array Oper} {rest : List Oper} {o : Oper} {a : Act} {Q : Exit → Act → World → Prop} (hgd : o.guard = none) (s x : Operand)
    (ho : o.op = .call { callee := .builtin .append, args := #[s, x], argTypes := #[25, 25] })
    {lo hi : Nat} (v : Value) (xs : List Int) (hs : a.eval s = v) (ys : List Int) (cs : Array Value) (hcs : cs = (ys.map (Value.int .i64)).toArray) (m : Nat) (hm : m = ys.length) (e : TypeId) (hv : OwnI w lo hi v xs) (hx : a.eval x = .slice (some ⟨w.heap.size, 0, none⟩) m m)
    (h0 : 0 < ys.length) (hy : ∀ y ∈ ys, I64 y) (hl : xs.length + ys.length ≤ 1099511627776) (hlo : lo ≤ w.heap.size)
    (h : ∀ v' w', OwnI w' lo w'.heap.size v' (xs ++ ys) → Same lo hi w w' → w.heap.size + 1 ≤ w'.heap.size → (v'.ownBlock = v.ownBlock ∨ v'.ownBlock = some (w.heap.size + 1)) → wpList Try.prog ops Q rest (a.put o.dst v') w') :
    wpList Try.prog ops Q (o :: rest) a (w.alloc (.cells cs e)) := by
  subst hm
  refine wpList_appI hgd s x ho v xs hs (hv.alloc _) ys ⟨w.heap.size, 0, none⟩ ys.length hx h0 hy ?_ hl (by simp; omega) ?_
  · intro j hj
    rw [add_plain']
    rw [Nat.zero_add, cell_new_at w cs e j (by rw [hcs]; simpa using hj)]
    subst hcs
    simp [List.getD, hj]
  · intro v' w' h1 h2 h3 h4
    simp only [World.size_alloc] at h3 h4
    exact h v' w' h1 (((Same.refl lo hi w).alloc _).trans h2) h3 h4
theorem fstGo_yes {key : Int → Int} {m : Nat} {k c : Int} (h : key k < key c) : fstGo key (m + 1) k c = fstGo key m (k + 1) k := by rw [fstGo, if_pos h]
theorem fstGo_no {key : Int → Int} {m : Nat} {k c : Int} (h : ¬ key k < key c) : fstGo key (m + 1) k c = fstGo key m (k + 1) c := by rw [fstGo, if_neg h]
theorem sndGo_yes {key : Int → Int} {F : Int} {m : Nat} {k c : Int} (h1 : k ≠ F) (h : c < 0 ∨ key k < key c) : sndGo key F (m + 1) k c = sndGo key F m (k + 1) k := by rw [sndGo, if_pos ⟨h1, h⟩]
theorem sndGo_no {key : Int → Int} {F : Int} {m : Nat} {k c : Int} (h : k = F ∨ ¬ (c < 0 ∨ key k < key c)) : sndGo key F (m + 1) k c = sndGo key F m (k + 1) c := by
  rw [sndGo, if_neg]
  rintro ⟨h1, h2⟩
  rcases h with h | h
  · exact h1 h
  · exact h h2
/-! ### TourBound -/
def tourBound (ws : List Int) : Int × Bool := if 3 ≤ citN ws then ((boundOf (wayOf ws (citN ws)) (citN ws)).2, true) else (0, false)
theorem cit_facts {ws : List Int} (h : 3 ≤ citN ws) : isCit ws = true ∧ citN ws = root ws.length ∧ citN ws ≤ 10 ∧ citN ws * citN ws = ws.length ∧ WayRng (wayOf ws (citN ws)) (citN ws) := by
  have hc : isCit ws = true := citN_pos.1 (by omega)
  obtain ⟨h1, h2, h3, h4, h5⟩ := isCit_out hc
  have e := citN_yes hc
  rw [← e] at h1 h2 h3
  exact ⟨hc, e, h2, h3, fun a b a1 a2 b1 b2 => by have := wayOf_rng h3 h4 a1 a2 b1 b2; omega⟩
set_option maxHeartbeats 1000000 in
set_option maxRecDepth 100000 in
theorem tourWay_any {l h p q n : Nat} (v : Value) (ws : List Int) (w : World) (hp : w.cell? ⟨p, 0, none⟩ = some v) (hq : w.cell? ⟨q, 0, none⟩ = some (.int .i64 n)) (hv : Ints w l h v ws) (hl : n * n = ws.length) (hn : n ≤ 10) (a b : Int) (ha : 0 ≤ a) (ha2 : a < n) (hb : 0 ≤ b) (hb2 : b < n) :
    Calls Try.prog 48 #[.int .i64 a, .int .i64 b, .pointer (some ⟨p, 0, none⟩), .pointer (some ⟨q, 0, none⟩)] w fun e w' => e = .returned (.int .i64 (wayOf ws n a b)) ∧ Drew w w' := by
  obtain ⟨A, rfl⟩ : ∃ A : Nat, a = (A : Int) := ⟨a.toNat, by omega⟩
  obtain ⟨B, rfl⟩ : ∃ B : Nat, b = (B : Int) := ⟨b.toNat, by omega⟩
  have hA : A < n := by omega
  have hB : B < n := by omega
  obtain ⟨va, vc, rfl, hc1, hc2, hd⟩ := hv.out
  have hpl := pos_lt hA hB
  rcases hd with hd | ⟨blk, off, rfl, hb1, hbb2, hb3, hcell⟩
  · exfalso; rw [hl, hd] at hpl; simp at hpl
  have hc := hcell (A * n + B) (by omega)
  have HE := Lib.hid (wayOf_nat ws n A B)
  have hp1 := prod_nat A n
  have hq1 := prod_le (i := A) (n := n) (by omega) hn
  have hpl2 : A * n + B < ws.length := by omega
  obtain ⟨x, hx⟩ : ∃ x, x = ws.getD (A * n + B) 0 := ⟨_, rfl⟩
  rw [← hx] at hc HE
  obtain ⟨s, hs⟩ : ∃ s, s = A * n := ⟨_, rfl⟩
  rw [← hs] at hc hp1 hq1 hpl2
  have z1 : (s : Int) + (B : Int) < (ws.length : Int) := by omega
  have z2 : (0 : Int) ≤ (s : Int) + (B : Int) := by omega
  have z6 : ((s : Int) + (B : Int)).toNat = s + B := by omega
  clear hcell hv hl hx hs hpl
  go_enter Try.func48, Try.ntmps48
  go_wp2
  go_ret
  exact ⟨ret_int HE.out.symm, Drew.refl _⟩
set_option maxHeartbeats 1000000 in
set_option maxRecDepth 100000 in
theorem implTourBound_any (w : World) {l h : Nat} (v : Value) (ws : List Int) (hv : Ints w l h v ws) (hh : h ≤ w.heap.size) (hz : ws.length ≤ 1048576) :
    Calls Try.prog 12 #[v] w fun e w' => e = .returned (.tuple #[.int .i64 (tourBound ws).1, .bool (tourBound ws).2]) ∧ Below w.heap.size w w' := by
  obtain ⟨va, vc, rfl, hc1, hc2, _⟩ := hv.out
  obtain ⟨W0, hW⟩ : ∃ W0, W0 = w.alloc (.cells #[.slice va ws.length vc] 25) := ⟨_, rfl⟩
  have hb0 : Below w.heap.size w W0 := by rw [hW]; exact (Below.refl _ _).alloc (Nat.le_refl _) _
  have hs0 : w.heap.size < W0.heap.size := by rw [hW]; simp
  have hp0 : W0.cell? ⟨w.heap.size, 0, none⟩ = some (.slice va ws.length vc) := by rw [hW]; exact one_new _ _ _
  have HV := Lib.hid (hv.below hb0 hh)
  have HA := Lib.hid (areCities_any _ ws W0 HV.out hz)
  have HB0 := Lib.hid hb0
  have HP0 := Lib.hid hp0
  have HW := Lib.hid hW
  cases hic : isCit ws
  · have HE := Lib.hid (show tourBound ws = (0, false) by rw [tourBound, citN_no hic, if_neg (by omega)])
    rw [hic] at HA
    clear hv hb0 hW hic hp0
    go_enter Try.func12, Try.ntmps12
    go_wp2_with fail
    rw [← HW.out]
    have hp := HP0.out
    go_wp2_with fail
    refine HA.out.mono ?_
    rintro e w1 ⟨rfl, hd⟩
    have HD := Lib.hid hd
    clear hd hp
    go_wp2
    go_ret2
    exact ⟨ret_p HE.out, HB0.out.trans (HD.out.below _)⟩
  · obtain ⟨r1, r2, r3, r4, _⟩ := isCit_out hic
    have en := citN_yes hic
    have ec : citI ws.length = (root ws.length : Int) := by rw [citI, if_neg (by omega)]
    have HC := Lib.hid (fun (wx : World) (hv : Ints wx l h (.slice va ws.length vc) ws) => cities_any _ ws wx hv hz)
    rw [ec, ← en] at HC
    rw [hic] at HA
    rw [← en] at r1 r2 r3
    by_cases h3 : 3 ≤ citN ws
    · obtain ⟨q1, q2, q3, q4, q5⟩ := cit_facts h3
      have HE := Lib.hid (show tourBound ws = ((boundOf (wayOf ws (citN ws)) (citN ws)).2, true) by rw [tourBound, if_pos h3])
      obtain ⟨n, hn⟩ : ∃ n, n = citN ws := ⟨_, rfl⟩
      rw [← hn] at HC HE h3 q3 q4 q5
      have HQ4 := Lib.hid q4
      have HQ5 := Lib.hid q5
      have hn3 : ¬ (n : Int) < 3 := by omega
      clear hv hb0 hW hic hp0 r1 r2 r3 r4 en ec q1 q2 q4 q5 hn
      go_enter Try.func12, Try.ntmps12
      go_wp2_with fail
      rw [← HW.out]
      have hp := HP0.out
      go_wp2_with fail
      refine HA.out.mono ?_
      rintro e w1 ⟨rfl, hd⟩
      have HD := Lib.hid hd
      have hp1 : w1.cell? ⟨w.heap.size, 0, none⟩ = some (.slice va ws.length vc) := by rw [HD.out.cell]; exact HP0.out
      have HC1 := Lib.hid (HC.out w1 (HV.out.drew HD.out))
      have hs1 : w1.heap.size = W0.heap.size := by rw [HD.out.heap]
      have HS1 := Lib.hid hs1
      have HP1 := Lib.hid hp1
      clear hd hp hs1
      go_wp2_with fail
      refine HC1.out.mono ?_
      rintro e w' ⟨rfl, rfl⟩
      go_wp2_with fail
      refine HC1.out.mono ?_
      rintro e w' ⟨rfl, rfl⟩
      have hs1w : w.heap.size < w1.heap.size := by rw [HS1.out]; exact hs0
      have HBX : Hid (∀ wx, Below (w1.alloc (.cells #[.int .i64 (n : Int)] 2)).heap.size (w1.alloc (.cells #[.int .i64 (n : Int)] 2)) wx → Below w1.heap.size w1 wx ∧ wx.cell? ⟨w1.heap.size, 0, none⟩ = some (.int .i64 (n : Int))) := fun wx hb => by
        have h1 : (w1.alloc (.cells #[.int .i64 (n : Int)] 2)).heap.size = w1.heap.size + 1 := by simp
        refine ⟨((Below.refl _ _).alloc (Nat.le_refl _) _).trans (hb.mono (by omega)), ?_⟩
        rw [hb.cell (p := ⟨w1.heap.size, 0, none⟩) (show w1.heap.size < _ by omega)]
        exact one_new _ _ _
      have HBE := Lib.hid (boundEdges_any 48 (fun _ _ => by kernel_rfl) #[.pointer (some ⟨w.heap.size, 0, none⟩), .pointer (some ⟨w1.heap.size, 0, none⟩)] (wayOf ws n) n (w1.alloc (.cells #[.int .i64 (n : Int)] 2)) h3 q3 (fun wx hb a b a1 a2 b1 b2 => by
        obtain ⟨g1, g2⟩ := HBX.out wx hb
        exact tourWay_any _ ws wx (by rw [g1.cell (p := ⟨w.heap.size, 0, none⟩) hs1w]; exact HP1.out) g2 ((HV.out.drew HD.out).below g1 (by omega)) HQ4.out q3 a b a1 a2 b1 b2) HQ5.out)
      clear hp1
      have hp1 := HP1.out
      go_wp2_with fail
      refine HBE.out.mono ?_
      rintro e w2 ⟨u, rfl, _, hb2⟩
      have HB2 : Hid (Below w.heap.size w w2) := (HB0.out.trans (HD.out.below _)).trans (((alloc_belowT w1 _).trans (hb2.mono (by simp))).mono (by omega))
      clear hb2
      go_wp2
      go_ret2
      exact ⟨ret_p HE.out, HB2.out⟩
    · have HE := Lib.hid (show tourBound ws = (0, false) by rw [tourBound, if_neg h3])
      obtain ⟨n, hn⟩ : ∃ n, n = citN ws := ⟨_, rfl⟩
      rw [← hn] at HC h3
      have hn3 : n < 3 := by omega
      clear hv hb0 hW hic hp0 r1 r2 r3 r4 en ec hn
      go_enter Try.func12, Try.ntmps12
      go_wp2_with fail
      rw [← HW.out]
      have hp := HP0.out
      go_wp2_with fail
      refine HA.out.mono ?_
      rintro e w1 ⟨rfl, hd⟩
      have HD := Lib.hid hd
      have hp1 : w1.cell? ⟨w.heap.size, 0, none⟩ = some (.slice va ws.length vc) := by rw [HD.out.cell]; exact HP0.out
      have HC1 := Lib.hid (HC.out w1 (HV.out.drew HD.out))
      clear hd hp
      go_wp2_with fail
      refine HC1.out.mono ?_
      rintro e w' ⟨rfl, rfl⟩
      go_wp2
      go_ret2
      exact ⟨ret_p HE.out, HB0.out.trans (HD.out.below _)⟩
end Go.Proofs.Ytkankfdpodofjaa
