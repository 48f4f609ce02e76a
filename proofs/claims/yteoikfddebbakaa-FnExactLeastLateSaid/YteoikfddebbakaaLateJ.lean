/-
  LeastLate: the program's contract.
-/
import Derived.Test.YteoikfddebbakaaLateI
import Derived.Deep.DeepCutAuto
import Derived.Deep.CutRange
namespace Go.Proofs.Yteoikfddebbakaa
open Go.RowKit
set_option linter.unusedVariables false
set_option maxRecDepth 100000

def foldK (js : List JobD) (m : Nat) (e : Int) (k : Nat) : Int × Int := ((dig js.length m).take k).foldl (lateStep js (costAt js) m e) (0, -1)
def endK (js : List JobD) (m k : Nat) : Int := endIn js ((dig js.length m).take k)
theorem foldK_zero (js : List JobD) (m : Nat) (e : Int) : foldK js m e 0 = (0, -1) := by simp [foldK]
theorem endK_zero (js : List JobD) (m : Nat) : endK js m 0 = 0 := by simp [endK, endIn]
theorem foldK_succ (js : List JobD) (m : Nat) (e : Int) {k : Nat} (hk : k < (dig js.length m).length) : foldK js m e (k + 1) = lateStep js (costAt js) m e (foldK js m e k) (dig js.length m)[k] := by
  unfold foldK
  rw [← List.take_append_getElem hk, List.foldl_append]; rfl
theorem endK_succ (js : List JobD) (m : Nat) {k : Nat} (hk : k < (dig js.length m).length) : endK js m (k + 1) = endK js m k + (jobAt js (dig js.length m)[k]).x0 := by
  unfold endK
  rw [← List.take_append_getElem hk, endIn_snoc]
theorem foldK_all (js : List JobD) (m : Nat) : foldK js (m + 1) (setEnd js (m + 1)) (dig js.length (m + 1)).length = (costAt js (m + 1), lastAt js (m + 1)) := by
  rw [entry_eq, foldK, List.take_length]; rfl
theorem foldK_rng {js : List JobD} (h : JobsOk js) {m : Nat} (hm : m < 2 ^ js.length) {e : Int} (h0 : 0 ≤ e) (h1 : e ≤ 12000) {k : Nat} (hk : 0 < k) (hk2 : k ≤ (dig js.length m).length) : 0 ≤ (foldK js m e k).1 ∧ (foldK js m e k).1 ≤ 12000000 * (m : Int) ∧ 0 ≤ (foldK js m e k).2 := by
  have hmem : ∀ i ∈ (dig js.length m).take k, i < js.length ∧ dgt m i = true := fun i hi => dig_mem.1 (List.mem_of_mem_take hi)
  have hb := best_inv h (m := m) (fun q hq => ⟨(cost_rng h q (by omega)).1, (cost_rng h q (by omega)).2.1⟩) h0 h1 _ (0, -1) hmem (.inl rfl)
  rcases hb with ⟨hd, _⟩ | ⟨b1, b2, i, hi, _, _⟩
  · have : ((dig js.length m).take k).length = k := by rw [List.length_take]; omega
    rw [hd] at this; simp at this; omega
  · refine ⟨b1, b2, ?_⟩
    show 0 ≤ (((dig js.length m).take k).foldl (lateStep js (costAt js) m e) (0, -1)).2
    rw [hi]; omega
theorem endK_rng {js : List JobD} (h : JobsOk js) (m k : Nat) : 0 ≤ endK js m k ∧ endK js m k ≤ 12000 := by
  have h1 := endIn_rng h ((dig js.length m).take k) fun i hi => (dig_mem.1 (List.mem_of_mem_take hi)).1
  have h2 := dig_len js.length m
  have h3 := h.hi
  have h4 := List.length_take_le' k (dig js.length m)
  unfold endK
  omega
theorem intsN_made (n : Nat) (hn : n ≤ 1048576) : ∀ wx : World, (Instr.makeSlice 69 (.int .i64 n) (.int .i64 n)).run Try.prog wx = .ok (.slice (some ⟨wx.heap.size, 0, none⟩) n n) (wx.alloc (.cells (madeCells #[Value.int .i64 0] n) 3)) := by
  intro wx
  obtain ⟨i0, hi, hz0, hz1, hz2⟩ := info_parts info_int
  have := run_make (P := Try.prog) wx 69 3 i0 (.int .i64 0) Try.underlying69 hi hz0 .i64 .i64 n n (by omega) (by omega) (by rw [hz2]; omega) (by omega)
  rw [hz1, Int.toNat_natCast, Nat.mul_one] at this
  exact this
theorem intsI_made (n : Nat) (hn : n ≤ 1048576) : ∀ wx : World, (Instr.makeSlice 32 (.int .i64 n) (.int .i64 n)).run Try.prog wx = .ok (.slice (some ⟨wx.heap.size, 0, none⟩) n n) (wx.alloc (.cells (madeCells #[Value.int .i64 0] n) 2)) := by
  intro wx
  obtain ⟨i0, hi, hz0, hz1, hz2⟩ := info_parts info_i64
  have := run_make (P := Try.prog) wx 32 2 i0 (.int .i64 0) Try.underlying32 hi hz0 .i64 .i64 n n (by omega) (by omega) (by rw [hz2]; omega) (by omega)
  rw [hz1, Int.toNat_natCast, Nat.mul_one] at this
  exact this
theorem rowI_made (w : World) (n : Nat) (hn : n ≤ 1048576) : RowI (w.alloc (.cells (madeCells #[Value.int .i64 0] n) 2)) w.heap.size w.heap.size n n (List.replicate n 0) :=
  RowI.made (World.ownsRow_lit w _ n (Nat.le_refl _) (by unfold maxLen; omega) (by simp [size_madeCells]))
theorem rowN_made (w : World) (n : Nat) (hn : n ≤ 1048576) : RowN (w.alloc (.cells (madeCells #[Value.int .i64 0] n) 3)) w.heap.size w.heap.size n n (List.replicate n 0) :=
  RowN.made (World.ownsRow_lit w _ n (Nat.le_refl _) (by unfold maxLen; omega) (by simp [size_madeCells]))
theorem set_getD {F : List Int} {m : Nat} (x : Int) (hm : m < F.length) (q : Nat) : (F.set m x).getD q 0 = if m = q then x else F.getD q 0 := by
  simp only [List.getD, List.getElem?_set]
  split
  · rename_i e; rfl
  · rfl
/-- the two rows: what lies in them -/
structure LateW (w w' : World) (js : List JobD) (gA gB M s : Nat) (C L : List Int) : Prop where
  a : RowI w' gA gA (M + 1) (M + 1) C
  b : RowN w' gB gB (M + 1) (M + 1) L
  ca : ∀ q, q < s → C.getD q 0 = costAt js q
  cb : ∀ q, 1 ≤ q → q < s → L.getD q 0 = lastAt js q
  ge : w.heap.size ≤ gA ∧ w.heap.size ≤ gB
  ne : gA ≠ gB
  bl : Below w.heap.size w w'
theorem LateW.below {w w' w2 : World} {js : List JobD} {gA gB M s B : Nat} {C L : List Int} (h : LateW w w' js gA gB M s C L) (hb : Below B w' w2) (hB : w'.heap.size ≤ B) : LateW w w2 js gA gB M s C L :=
  ⟨h.a.below hb (Nat.lt_of_lt_of_le h.a.lt hB), h.b.below hb (Nat.lt_of_lt_of_le h.b.lt hB), h.ca, h.cb, h.ge, h.ne, h.bl.trans (hb.mono (Nat.le_trans h.bl.size hB))⟩
theorem LateW.drew {w w' w2 : World} {js : List JobD} {gA gB M s : Nat} {C L : List Int} (h : LateW w w' js gA gB M s C L) (hb : Drew w' w2) : LateW w w2 js gA gB M s C L := h.below (hb.below _) (Nat.le_refl _)
theorem LateW.store {w w' : World} {js : List JobD} {gA gB M s : Nat} {C L : List Int} (h : LateW w w' js gA gB M s C L) (hs : s ≤ M) (c l : Int) : LateW w ((w'.setCell ⟨gA, s, none⟩ (.int .i64 c)).setCell ⟨gB, s, none⟩ (.int .i64 l)) js gA gB M s (C.set s c) (L.set s l) := by
  have h1 := h.a.length
  have h2 := h.b.length
  refine ⟨(h.a.stored s c).other (by exact h.ne) _, (h.b.other (by exact fun e => h.ne e.symm) _).stored s l, fun q hq => ?_, fun q h1 hq => ?_, h.ge, h.ne, (h.bl.setCell (p := ⟨gA, s, none⟩) h.ge.1 _).setCell (p := ⟨gB, s, none⟩) h.ge.2 _⟩
  · rw [set_getD _ (by omega), if_neg (by omega)]; exact h.ca q hq
  · rw [set_getD _ (by omega), if_neg (by omega)]; exact h.cb q h1 hq
set_option maxHeartbeats 4000000 in
set_option maxRecDepth 100000 in
theorem implLeastLate_any (w : World) {l h : Nat} (v : Value) (js : List JobD) (hv : Jobs w l h v js) (hh : h ≤ w.heap.size) (hz : js.length ≤ 1048576) :
    Calls Try.prog 18 #[v] w fun e w' => ∃ r, e = .returned (.tuple #[r, .int .i64 (leastLate js).2.1, .bool (leastLate js).2.2]) ∧ OwnI w' w.heap.size w'.heap.size r (leastLate js).1 ∧ Below w.heap.size w w' := by
  obtain ⟨ja, jc, rfl, hc1, hc2, hd⟩ := hv.out
  have HAR := Lib.hid (implAreJobs_any w _ js hv hh hz)
  have HV := Lib.hid hv
  clear hv hd
  cases hok : areJobs js
  · have HE := Lib.hid (late_no hok)
    rw [hok] at HAR
    go_enter Try.func18, Try.ntmps18
    go_wp2_with fail
    refine HAR.out.mono ?_
    rintro e w' ⟨rfl, hb⟩
    have hs := hb.size
    go_wp2
    go_ret3
    exact ⟨_, by rw [HE.out]; rfl, by rw [HE.out]; exact OwnI.nil _ _ _ (Nat.le_refl _), hb⟩
  have HE := Lib.hid (late_yes hok)
  have HJ := Lib.hid (jobsOk hok)
  rw [hok] at HAR
  have hn1 := HJ.out.lo
  have hn2 := HJ.out.hi
  obtain ⟨N, hN⟩ : ∃ N : Nat, N = 2 ^ js.length := ⟨_, rfl⟩
  have hsh := (shl_pow js.length (by omega)).1
  have hN12 : N ≤ 4096 := by
    have : 2 ^ js.length ≤ 2 ^ 12 := Nat.pow_le_pow_right (by decide) hn2
    omega
  have hN1 : 2 ≤ N := by
    have : 2 ^ 1 ≤ 2 ^ js.length := Nat.pow_le_pow_right (by decide) hn1
    omega
  rw [← hN] at hsh HE
  have HN := Lib.hid hN
  obtain ⟨M, rfl⟩ : ∃ M : Nat, N = M + 1 := ⟨N - 1, by omega⟩
  rw [Nat.add_sub_cancel] at HE
  have hM1 : 1 ≤ M := by omega
  have hM2 : M ≤ 4095 := by omega
  have hmk1 := intsI_made (M + 1) (by omega)
  have hmk2 := intsN_made (M + 1) (by omega)
  rw [Int.natCast_add, Int.natCast_one] at hsh hmk1 hmk2
  have HSHI : Hid (∀ i : Nat, i ≤ 20 → IntKind.i64.wrap ((2 : Int) ^ i) = ((2 ^ i : Nat) : Int)) := fun i hi => (shl_pow i hi).1
  obtain ⟨jb, joff, hja⟩ : ∃ b off, ja = some ⟨b, off, none⟩ := by
    obtain ⟨a', cap', e, h1, h2, hd⟩ := HV.out.out
    simp only [Value.slice.injEq] at e
    obtain ⟨rfl, _, _⟩ := e
    rcases hd with rfl | ⟨b', off', r1, _⟩
    · simp at hn1
    · exact ⟨b', off', r1⟩
  subst hja
  clear hok hN hN12 hN1
  go_enter Try.func18, Try.ntmps18
  go_wp2_with fail
  refine HAR.out.mono ?_
  rintro e w1 ⟨rfl, hb1⟩
  have HB1 := Lib.hid hb1
  have hs1 := hb1.size
  clear hb1
  go_wp2_with fail
  go_cut [6, 7] from 25 to 30 (fun av bv wr => ∃ gA gB, av = .slice (some ⟨gA, 0, none⟩) (M + 1) (M + 1) ∧ bv = .slice (some ⟨gB, 0, none⟩) (M + 1) (M + 1) ∧ Hid (LateW w wr js gA gB M 1 (List.replicate (M + 1) 0) (List.replicate (M + 1) 0)))
  case first =>
    go_region
    · obtain ⟨W2, hW2⟩ : ∃ W, W = (((w1.alloc (.cells (madeCells #[Value.int .i64 0] (M + 1)) 2)).alloc (.cells (madeCells #[Value.int .i64 0] (M + 1)) 3)).drew) := ⟨_, rfl⟩
      rw [← hW2]
      have e1 : (w1.alloc (.cells (madeCells #[Value.int .i64 0] (M + 1)) 2)).heap.size = w1.heap.size + 1 := by simp
      have HLW : Hid (LateW w W2 js w1.heap.size (w1.heap.size + 1) M 1 (List.replicate (M + 1) 0) (List.replicate (M + 1) 0)) := by
        refine ⟨?_, ?_, fun q hq => ?_, fun q h1 h2 => by omega, ⟨hs1, by omega⟩, by omega, ?_⟩
        · rw [hW2]; exact ((rowI_made w1 (M + 1) (by omega)).alloc _).drew ⟨1, rfl⟩
        · have := rowN_made (w1.alloc (.cells (madeCells #[Value.int .i64 0] (M + 1)) 2)) (M + 1) (by omega)
          rw [e1] at this
          rw [hW2]; exact this.drew ⟨1, rfl⟩
        · have : q = 0 := by omega
          rw [this, replicate_getD]; rfl
        · rw [hW2]; exact HB1.out.trans (((((Below.refl _ _).alloc (Nat.le_refl _) _).alloc (by rw [e1]; omega) _).trans ((show Drew _ (World.drew _) from ⟨1, rfl⟩).below _)).mono hs1)
      obtain ⟨gB, hgB⟩ : ∃ g, g = w1.heap.size + 1 := ⟨_, rfl⟩
      obtain ⟨gA, hgA⟩ : ∃ g, g = w1.heap.size := ⟨_, rfl⟩
      rw [← hgB, ← hgA] at HLW ⊢
      clear hgA hgB e1 hW2
      go_simp
      go_wp2
      go_meet
      exact ⟨_, _, rfl, rfl, HLW⟩
    · obtain ⟨W2, hW2⟩ : ∃ W, W = (((w1.alloc (.cells (madeCells #[Value.int .i64 0] (M + 1)) 3)).alloc (.cells (madeCells #[Value.int .i64 0] (M + 1)) 2)).drew) := ⟨_, rfl⟩
      rw [← hW2]
      have e1 : (w1.alloc (.cells (madeCells #[Value.int .i64 0] (M + 1)) 3)).heap.size = w1.heap.size + 1 := by simp
      have HLW : Hid (LateW w W2 js (w1.heap.size + 1) w1.heap.size M 1 (List.replicate (M + 1) 0) (List.replicate (M + 1) 0)) := by
        refine ⟨?_, ?_, fun q hq => ?_, fun q h1 h2 => by omega, ⟨by omega, hs1⟩, by omega, ?_⟩
        · have := rowI_made (w1.alloc (.cells (madeCells #[Value.int .i64 0] (M + 1)) 3)) (M + 1) (by omega)
          rw [e1] at this
          rw [hW2]; exact this.drew ⟨1, rfl⟩
        · rw [hW2]; exact ((rowN_made w1 (M + 1) (by omega)).alloc _).drew ⟨1, rfl⟩
        · have : q = 0 := by omega
          rw [this, replicate_getD]; rfl
        · rw [hW2]; exact HB1.out.trans (((((Below.refl _ _).alloc (Nat.le_refl _) _).alloc (by rw [e1]; omega) _).trans ((show Drew _ (World.drew _) from ⟨1, rfl⟩).below _)).mono hs1)
      obtain ⟨gA, hgA⟩ : ∃ g, g = w1.heap.size + 1 := ⟨_, rfl⟩
      obtain ⟨gB, hgB⟩ : ∃ g, g = w1.heap.size := ⟨_, rfl⟩
      rw [← hgA, ← hgB] at HLW ⊢
      clear hgA hgB e1 hW2
      go_simp
      go_wp2
      go_meet
      exact ⟨_, _, rfl, rfl, HLW⟩
  case rest =>
    obtain ⟨gA, gB, rfl, rfl, HLW⟩ := hcut
    clear hmk1 hmk2 hsh hs1 HB1
    go_wp2_with fail
    go_loopw [8] (fun sv wr => ∃ (s : Nat) (C L : List Int), 1 ≤ s ∧ s ≤ M + 1 ∧ sv = .int .i64 s ∧ Hid (LateW w wr js gA gB M s C L)) (fun sv _ => M + 1 - (intOf sv).toNat)
    case atStart => exact ⟨1, _, _, Nat.le_refl _, by omega, rfl, HLW⟩
    case round =>
      clear HLW
      obtain ⟨m, C, L, hm1, hm2, rfl, HW⟩ := hrel
      have hsw := HW.out.bl.size
      by_cases hlt : m ≤ M
      · have hmi : (m : Int) ≤ (M : Int) := by omega
        have HML : Hid (m < 2 ^ js.length) := by rw [Hid, ← HN.out]; omega
        have HDG := Lib.hid (implDigits_any js.length m wr hn2 HML.out)
        go_wp2_with fail
        refine HDG.out.mono ?_
        rintro e w3 ⟨r3, rfl, ho3, hb3⟩
        have HW3 := Lib.hid (HW.out.below hb3 (Nat.le_refl _))
        obtain ⟨wr0, hwr0⟩ : ∃ n, n = wr.heap.size := ⟨_, rfl⟩
        have hdp := dig_pos HML.out (by omega)
        have hdl : (digI js.length m).length = (dig js.length m).length := by rw [digI, List.length_map]
        have hdl0 : 0 < (dig js.length m).length := List.length_pos_iff.2 hdp
        rcases ho3.rowOf with ⟨_, h0⟩ | ⟨db, dcap, rfl, _, _, _, hrow⟩
        · exfalso; rw [h0] at hdl; simp at hdl; omega
        have HDG1 : Hid (wr.heap.size ≤ db) := hrow.ge
        rw [← hwr0] at hrow
        have HAB : Hid (gA ≠ db ∧ gB ≠ db) := ⟨by have := HW.out.a.lt; have := HDG1.out; omega, by have := HW.out.b.lt; have := HDG1.out; omega⟩
        have HDR := Lib.hid hrow
        have hdn := dig_len js.length m
        rw [hdl] at HDR ⊢
        obtain ⟨K, hK⟩ : ∃ K, K = (dig js.length m).length := ⟨_, rfl⟩
        rw [← hK] at hdn hdl0 HDR ⊢
        have HK := Lib.hid hK
        have HDC : Hid (∀ k (hk : k < (dig js.length m).length), (digI js.length m).getD k 0 = (((dig js.length m)[k] : Nat) : Int)) := fun k hk => by simp [digI, List.getD, hk]
        clear hdl hdp ho3 hb3 hK HDG hsw hrow
        have HV3 := Lib.hid (HV.out.below HW3.out.bl hh)
        go_wp2_with fail
        go_loop [9, 40] (fun ev kv => ∃ k : Nat, k ≤ K ∧ kv = .int .i64 k ∧ ev = .int .i64 (endK js m k)) (fun _ kv => K - (intOf kv).toNat)
        case atStart => exact ⟨0, Nat.zero_le _, rfl, by rw [endK_zero]⟩
        case round =>
          obtain ⟨k, hk, rfl, rfl⟩ := hrel
          have her := endK_rng HJ.out m k
          by_cases hkK : k < K
          · have hkd : k < (dig js.length m).length := by rw [← HK.out]; exact hkK
            have hdk := HDR.out.cell hkK
            rw [HDC.out k hkd] at hdk
            have HES := Lib.hid (endK_succ js m hkd)
            have hil := (dig_mem.1 (List.getElem_mem hkd)).1
            obtain ⟨i, hi⟩ : ∃ i, i = (dig js.length m)[k] := ⟨_, rfl⟩
            rw [← hi] at hdk HES hil
            obtain ⟨c0, _, _, _⟩ := jobs_cells HV3.out hil
            have hjo := (okJob_iff.1 (HJ.out.at' hil)).1
            obtain ⟨x, hx⟩ : ∃ x, x = (jobAt js i).x0 := ⟨_, rfl⟩
            obtain ⟨E, hE⟩ : ∃ E, E = endK js m k := ⟨_, rfl⟩
            rw [← hx] at c0 hjo HES
            rw [← hE] at her HES ⊢
            have hx1 := hjo.1
            have hx2 := hjo.2
            have he1 := her.1
            have he2 := her.2
            clear hjo her hx hE hi hkd
            go_wp2
            go_round
            case rel => exact ⟨k + 1, by omega, by go_num, by rw [HES.out]⟩
            case measure => simp [intOf]; omega
          · obtain rfl : k = K := by omega
            have HKE : Hid (endK js m k = setEnd js m) := by rw [Hid, HK.out, endK, List.take_length]; rfl
            obtain ⟨E, hE⟩ : ∃ E, E = endK js m k := ⟨_, rfl⟩
            rw [← hE] at her HKE ⊢
            have he1 := her.1
            have he2 := her.2
            clear her hE
            go_wp2_with fail
            go_loopw [54] (fun kv wr => ∃ (q : Nat) (C L : List Int), q ≤ k ∧ kv = .int .i64 q ∧ Hid (LateW w wr js gA gB M m C L) ∧ Hid (q ≠ 0 → C.getD m 0 = (foldK js m E q).1 ∧ L.getD m 0 = (foldK js m E q).2) ∧ Hid (RowI wr wr0 db k dcap (digI js.length m))) (fun kv _ => k - (intOf kv).toNat)
            case atStart => exact ⟨0, C, L, Nat.zero_le _, rfl, HW3, fun h => absurd rfl h, HDR⟩
            case round =>
              obtain ⟨q, C, L, hq, rfl, HWr, HF, HR⟩ := hrel
              by_cases hqk : q < k
              · have hqd : q < (dig js.length m).length := by rw [← HK.out]; exact hqk
                have hdk := HR.out.cell hqk
                rw [HDC.out q hqd] at hdk
                have HFS := Lib.hid (foldK_succ js m E hqd)
                have hmem := dig_mem.1 (List.getElem_mem hqd)
                obtain ⟨i, hi⟩ : ∃ i, i = (dig js.length m)[q] := ⟨_, rfl⟩
                rw [← hi] at hdk HFS hmem
                obtain ⟨hil, hdt⟩ := hmem
                have hxl := xor_lt hdt
                have hsh2 := HSHI.out i (by omega)
                have hp20 := (shl_pow i (by omega)).2
                have hxn := andNot_nat m i hdt (by omega) (by omega)
                have hla := lateAt_rng HJ.out hil he1 he2
                obtain ⟨ca1, ca2, _⟩ := cost_rng HJ.out (m ^^^ 2 ^ i) (by have := HML.out; omega)
                obtain ⟨jc0, jc1, jc2, hjb⟩ := jobs_cells (HV.out.below HWr.out.bl hh) hil
                have hck := HWr.out.a.cell (k := m ^^^ 2 ^ i) (by omega)
                rw [HWr.out.ca _ hxl] at hck
                have hcm := HWr.out.a.cell (k := m) (by omega)
                have hcmb := HWr.out.b.cell (k := m) (by omega)
                have hfa := HWr.out.a.frozen m
                have hfb := HWr.out.b.frozen m
                obtain ⟨_, ⟨d1, d2⟩, ⟨x1, x2⟩, _⟩ := okJob_iff.1 (HJ.out.at' hil)
                have HLA : Hid (lateAt js i E = (jobAt js i).x2 * max 0 (E - (jobAt js i).x1)) := rfl
                have HFX : Hid (foldK js m E (q + 1) = if (foldK js m E q).2 < 0 ∨ costAt js (m ^^^ 2 ^ i) + lateAt js i E < (foldK js m E q).1 then (costAt js (m ^^^ 2 ^ i) + lateAt js i E, (i : Int)) else foldK js m E q) := HFS.out
                obtain ⟨p, hp⟩ : ∃ p, p = 2 ^ i := ⟨_, rfl⟩
                rw [← hp] at hsh2 hp20 hxn hck HFX hxl ca1 ca2
                obtain ⟨z, hz⟩ : ∃ z, z = m ^^^ p := ⟨_, rfl⟩
                rw [← hz] at hxn hck HFX hxl ca1 ca2
                obtain ⟨cq, hcq⟩ : ∃ c, c = costAt js z := ⟨_, rfl⟩
                rw [← hcq] at hck HFX ca1 ca2
                obtain ⟨d, hde⟩ : ∃ c, c = (jobAt js i).x1 := ⟨_, rfl⟩
                rw [← hde] at jc1 HLA d1 d2
                obtain ⟨x, hxe⟩ : ∃ c, c = (jobAt js i).x2 := ⟨_, rfl⟩
                rw [← hxe] at jc2 HLA x1 x2
                rw [HLA.out] at hla HFX
                have hne1 := HWr.out.ne
                have hne2 : gB ≠ gA := fun e => hne1 e.symm
                obtain ⟨y, hy⟩ : ∃ y, y = x * max 0 (E - d) := ⟨_, rfl⟩
                rw [← hy] at hla HFX
                have HY := Lib.hid hy
                have l1 := hla.1
                have l2 := hla.2
                have HAs := Lib.hid HAB.out
                clear hdt HFS jc0 hla hp hz hcq hde hxe hi hqd hy
                have HRs : Hid (∀ (n : Nat) (c : Int), RowI (((wr.drewN n).setCell ⟨gA, m, none⟩ (.int .i64 c)).setCell ⟨gB, m, none⟩ (.int .i64 (i : Int))) wr0 db k dcap (digI js.length m)) := fun n c => ((HR.out.drewN n).other (by exact fun e => HAB.out.1 e.symm) _).other (by exact fun e => HAB.out.2 e.symm) _
                have HWs : Hid (∀ (n : Nat) (c : Int), LateW w (((wr.drewN n).setCell ⟨gA, m, none⟩ (.int .i64 c)).setCell ⟨gB, m, none⟩ (.int .i64 (i : Int))) js gA gB M m (C.set m c) (L.set m (i : Int))) := fun n c => (HWr.out.drew (Drew.one wr n)).store hlt c (i : Int)
                have HCm : Hid (∀ c : Int, (C.set m c).getD m 0 = c ∧ (L.set m (i : Int)).getD m 0 = (i : Int)) := fun c => by
                  have g1 := HWr.out.a.length
                  have g2 := HWr.out.b.length
                  exact ⟨by rw [set_getD _ (by omega), if_pos rfl], by rw [set_getD _ (by omega), if_pos rfl]⟩
                go_upto_region 18 with fail
                go_cut [15, 54] from 54 to 99 (fun cv kv wx => cv = .int .i64 (cq + y) ∧ kv = .int .i64 q ∧ Hid (∃ n, wx = wr.drewN n))
                case first =>
                  by_cases hmx : d < E
                  · have hmx2 : 0 < E - d := by omega
                    have hye : x * (E - d) = y := by rw [HY.out, show max 0 (E - d) = E - d by omega]
                    have hye1 : 0 ≤ x * (E - d) := by omega
                    have hye2 : x * (E - d) ≤ 12000000 := by omega
                    go_quiet (fail)
                    go_wp2
                    go_meet
                    exact ⟨rfl, rfl, _, rfl⟩
                  · have hmx2 : ¬ 0 < E - d := by omega
                    have hye : y = 0 := by rw [HY.out, show max 0 (E - d) = 0 by omega, Int.mul_zero]
                    subst hye
                    go_quiet (fail)
                    go_wp2
                    go_meet
                    exact ⟨by simp, rfl, _, rfl⟩
                case rest =>
                  obtain ⟨rfl, rfl, HN0⟩ := hcut
                  obtain ⟨nd, rfl⟩ := HN0.out
                  clear HN0 HY hck jc1 jc2 hdk
                  by_cases hq0 : q = 0
                  · subst hq0
                    have HF2 : Hid (foldK js m E (0 + 1) = (cq + y, (i : Int))) := by rw [Hid, HFX.out, foldK_zero]; exact if_pos (.inl (by decide))
                    go_wp2
                    go_roundw
                    case rel => first | exact ⟨1, _, _, by omega, rfl, HWs.out _ _, fun _ => by rw [HF2.out]; exact HCm.out _, HRs.out _ _⟩ | ((repeat apply Exists.intro); exact ⟨⟨1, _, _, by omega, rfl, HWs.out _ _, fun _ => by rw [HF2.out]; exact HCm.out _, HRs.out _ _⟩, rfl⟩)
                    case measure => simp [intOf]; omega
                  · have hqi : ¬ ((q : Int) = 0) := by omega
                    have HFq := Lib.hid (HF.out hq0)
                    have hfr := foldK_rng HJ.out HML.out he1 he2 (k := q) (by omega) (by rw [← HK.out]; omega)
                    rw [HFq.out.1] at hcm
                    rw [HFq.out.2] at hcmb
                    obtain ⟨sb, hsb⟩ : ∃ s, s = (foldK js m E q).1 := ⟨_, rfl⟩
                    obtain ⟨sl, hsl⟩ : ∃ s, s = (foldK js m E q).2 := ⟨_, rfl⟩
                    have HST : Hid (foldK js m E q = (sb, sl)) := by rw [Hid, hsb, hsl]
                    rw [← hsb] at hcm
                    rw [← hsl] at hcmb
                    rw [HST.out] at HFX HFq hfr
                    obtain ⟨f1, f2, f3⟩ := hfr
                    dsimp only at f1 f2 f3
                    clear hsb hsl
                    by_cases hcs : cq + y < sb
                    · have HF2 : Hid (foldK js m E (q + 1) = (cq + y, (i : Int))) := by rw [Hid, HFX.out]; exact if_pos (.inr hcs)
                      go_wp2
                      go_roundw
                      case rel => first | exact ⟨q + 1, _, _, by omega, by go_num, HWs.out _ _, fun _ => by rw [HF2.out]; exact HCm.out _, HRs.out _ _⟩ | ((repeat apply Exists.intro); exact ⟨⟨q + 1, _, _, by omega, by go_num, HWs.out _ _, fun _ => by rw [HF2.out]; exact HCm.out _, HRs.out _ _⟩, rfl⟩)
                      case measure => simp [intOf]; omega
                    · have hcd : decide (cq + y < sb) = false := decide_eq_false hcs
                      have HF2 : Hid (foldK js m E (q + 1) = (sb, sl)) := by rw [Hid, HFX.out]; exact if_neg (fun h' => by rcases h' with h' | h' <;> (dsimp only at h'; omega))
                      go_wp2
                      go_roundw
                      case rel => first | exact ⟨q + 1, C, L, by omega, by go_num, HWr.out.drew (Drew.one wr _), fun _ => by rw [HF2.out]; exact HFq.out, HR.out.drewN _⟩ | ((repeat apply Exists.intro); exact ⟨⟨q + 1, C, L, by omega, by go_num, HWr.out.drew (Drew.one wr _), fun _ => by rw [HF2.out]; exact HFq.out, HR.out.drewN _⟩, rfl⟩)
                      case measure => simp [intOf]; omega
              · obtain rfl : q = k := by omega
                have HFA : Hid (foldK js m E q = (costAt js m, lastAt js m)) := by
                  obtain ⟨m', rfl⟩ : ∃ m', m = m' + 1 := ⟨m - 1, by omega⟩
                  rw [Hid, HKE.out, HK.out]; exact foldK_all js m'
                have HW5 : Hid (LateW w wr js gA gB M (m + 1) C L) := by
                  have g1 := HF.out (by omega)
                  rw [HFA.out] at g1
                  have h' := HWr.out
                  refine ⟨h'.a, h'.b, fun j hj => ?_, fun j h1 hj => ?_, h'.ge, h'.ne, h'.bl⟩
                  · by_cases e : j = m
                    · rw [e]; exact g1.1
                    · exact h'.ca j (by omega)
                  · by_cases e : j = m
                    · rw [e]; exact g1.2
                    · exact h'.cb j h1 (by omega)
                go_wp2
                go_roundw
                case rel => exact ⟨m + 1, C, L, by omega, by omega, by go_num, HW5⟩
                case measure => simp [intOf]; omega
      · obtain rfl : m = M + 1 := by omega
        obtain ⟨wu, hwu⟩ : ∃ wu : World, wu = wr := ⟨_, rfl⟩
        rw [← hwu] at HW hsw ⊢
        have HAu : Hid (gA < wu.heap.size ∧ gB < wu.heap.size) := ⟨HW.out.a.lt, HW.out.b.lt⟩
        have H0 : Hid (OwnI wu wu.heap.size wu.heap.size (.slice none 0 0) []) := OwnI.nil _ _ _ (Nat.le_refl _)
        have HB0 := Lib.hid (Below.refl wu.heap.size wu)
        have hmi : ¬ ((M : Int) + 1 ≤ (M : Int)) := by omega
        clear hwu
        go_wp2_with fail
        go_loopw [16, 17] (fun bv mv wr => ∃ (q : Nat) (acc : List Int), q ≤ M ∧ mv = .int .i64 q ∧ Hid (orderGo js (M + 1) q acc = orderGo js (M + 1) M []) ∧ acc.length + q ≤ M ∧ Hid (acc = [] → q = M) ∧ Hid (OwnI wr wu.heap.size wr.heap.size bv acc) ∧ Hid (Below wu.heap.size wu wr)) (fun _ mv _ => (intOf mv).toNat)
        case atStart => exact ⟨M, [], Nat.le_refl _, rfl, Lib.hid rfl, by simp, fun _ => rfl, H0, HB0⟩
        case round =>
          clear H0 HB0
          obtain ⟨q, acc, hq, rfl, HG, hal, HNE, HO, HBr⟩ := hrel
          have hsr := HBr.out.size
          by_cases hq0 : q = 0
          · subst hq0
            have HAC : Hid (orderGo js (M + 1) M [] = acc) := by rw [Hid, ← HG.out, order_end]
            rcases HO.out.rowOf with ⟨_, h0⟩ | ⟨g, cap, rfl, hg1, hg2, hg3, hrow⟩
            · exact absurd (HNE.out h0) (by omega)
            have HRV := Lib.hid (reverse_any wu.heap.size g acc.length cap acc wr hrow (by omega))
            have HGE := Lib.hid hrow.ge
            have HLT := Lib.hid hrow.lt
            obtain ⟨n, hn⟩ : ∃ n, n = acc.length := ⟨_, rfl⟩
            rw [← hn] at HRV ⊢
            have hnb : n ≤ 4096 := by omega
            have HRG := Lib.hid HO.out.rng
            rw [HAC.out] at HE
            clear hrow hg2 hg3 hn hal
            go_wp2_with fail
            refine HRV.out.mono ?_
            rintro e w7 ⟨rfl, hr7, hb7, _⟩
            have HB7 := Lib.hid (HBr.out.trans hb7)
            have HB7L := Lib.hid hb7.size
            have hck := HW.out.a.cell (k := M) (by omega)
            rw [HW.out.ca M (by omega), ← HB7.out.cell (p := ⟨gA, M, none⟩) HAu.out.1] at hck
            have HR7 := Lib.hid hr7
            have HBF := Lib.hid (HW.out.bl.trans (HB7.out.mono hsw))
            obtain ⟨cm, hcm⟩ : ∃ c, c = costAt js M := ⟨_, rfl⟩
            rw [← hcm] at hck HE
            clear hr7 hb7 hcm
            go_wp2_with fail
            go_quiet (fail)
            go_wp2
            go_ret3
            exact ⟨_, by rw [HE.out]; rfl, by rw [HE.out]; exact ((HR7.out.own (hi := w7.heap.size) (fun x hx => HRG.out x (List.mem_reverse.1 hx)) (by omega) (Nat.lt_of_lt_of_le HLT.out (HB7L.out)) (Nat.le_refl _)).mono (Nat.le_trans hsw (Nat.le_refl _)) (Nat.le_refl _) (Nat.le_refl _)).drewN _, HBF.out.trans ((Drew.one _ _).below _)⟩
          · obtain ⟨oa, oc, rfl⟩ := HO.out.shape'
            obtain ⟨i, hi1, hi2, hid⟩ := (cost_rng HJ.out q (by rw [← HN.out]; omega)).2.2 hq0
            have hlq := HW.out.b.cell (k := q) (by omega)
            rw [HW.out.cb q (by omega) (by omega), hi1] at hlq
            have HLQ := Lib.hid hlq
            have hlqr : wr.cell? ⟨gB, q, none⟩ = some (.int .i64 (i : Int)) := by rw [HBr.out.cell (p := ⟨gB, q, none⟩) HAu.out.2]; exact hlq
            have hxl := xor_lt hid
            have HOG : Hid (orderGo js (M + 1) (q ^^^ 2 ^ i) (acc ++ [(i : Int)]) = orderGo js (M + 1) q acc) := by
              have h1 := order_go HJ.out (acc := acc) (by rw [← HN.out]; omega) hq0 hi1 hid
              rw [← HN.out] at h1; exact h1
            have hsh2 := HSHI.out i (by omega)
            have hp20 := (shl_pow i (by omega)).2
            have hxn := andNot_nat q i hid (by omega) (by omega)
            obtain ⟨p, hp⟩ : ∃ p, p = 2 ^ i := ⟨_, rfl⟩
            rw [← hp] at hsh2 hp20 hxn HOG hxl
            obtain ⟨q2, hq2⟩ : ∃ q2, q2 = q ^^^ p := ⟨_, rfl⟩
            rw [← hq2] at hxn HOG hxl
            have ki : I64 (i : Int) := by unfold I64; omega
            have hqi : ¬ ((q : Int) = 0) := by omega
            have HG2 : Hid (orderGo js (M + 1) q2 (acc ++ [(i : Int)]) = orderGo js (M + 1) M []) := by rw [Hid, HOG.out]; exact HG.out
            clear hi1 hid hlq hp hq2
            go_wp2_with (at_builtin; refine wpList_app1 rfl _ _ rfl _ acc rfl (i : Int) _ HO.out rfl ki (by omega) hsr ?_)
            intro v3 w3 ho3 hsm3 hz3 _
            have HB3 := Lib.hid (HBr.out.trans (hsm3.below (Nat.le_refl _) hsr))
            have HO3 := Lib.hid ho3
            have hlq3 : w3.cell? ⟨gB, q, none⟩ = some (.int .i64 (i : Int)) := by rw [HB3.out.cell (p := ⟨gB, q, none⟩) HAu.out.2]; exact HLQ.out
            clear ho3 hsm3 hz3 hlqr
            go_wp2
            go_roundw
            case rel => exact ⟨q2, acc ++ [(i : Int)], by omega, rfl, HG2, by rw [List.length_append, List.length_singleton]; omega, fun h => by simp at h, HO3, HB3⟩
            case measure => simp [intOf]; omega
end Go.Proofs.Yteoikfddebbakaa
