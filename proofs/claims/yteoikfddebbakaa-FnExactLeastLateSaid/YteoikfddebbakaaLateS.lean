/-
  LeastLate: contracts in the reference.
-/
import Derived.Test.YteoikfddebbakaaLateA
namespace Go.Proofs.Yteoikfddebbakaa
open Go.RowKit
set_option linter.unusedVariables false
set_option maxRecDepth 100000

def costL (js : List JobD) (m : Nat) : List Int := (List.range m).map (costAt js)
def lastL (js : List JobD) (m : Nat) : List Int := (List.range m).map (lastAt js)
theorem costL_len (js : List JobD) (m : Nat) : (costL js m).length = m := by simp [costL]
theorem lastL_len (js : List JobD) (m : Nat) : (lastL js m).length = m := by simp [lastL]
theorem costL_get (js : List JobD) {q m : Nat} (h : q < m) : (costL js m).getD q 0 = costAt js q := by simp [costL, List.getD, h]
theorem lastL_get (js : List JobD) {q m : Nat} (h : q < m) : (lastL js m).getD q 0 = lastAt js q := by simp [lastL, List.getD, h]
theorem costL_succ (js : List JobD) (m : Nat) : costL js (m + 1) = costL js m ++ [costAt js m] := by simp [costL, List.range_succ]
theorem lastL_succ (js : List JobD) (m : Nat) : lastL js (m + 1) = lastL js m ++ [lastAt js m] := by simp [lastL, List.range_succ]
/-- two growing slices, of costs and of last jobs -/
structure LateM (w : World) (lo : Nat) (cv lv : Value) (cs ls : List Int) : Prop where
  a : OwnI w lo w.heap.size cv cs
  b : OwnN w lo w.heap.size lv ls
  ap : ∀ p, cv.ownBlock = some p → lv.ownBlock ≠ some p
section
variable {w w' : World} {lo : Nat} {cv lv u : Value} {cs ls zs : List Int}
theorem LateM.drew (h : LateM w lo cv lv cs ls) (hd : Drew w w') : LateM w' lo cv lv cs ls := by
  have e : w'.heap.size = w.heap.size := by rw [hd.heap]
  exact ⟨by rw [e]; exact h.a.drew hd, by rw [e]; exact h.b.drew hd, h.ap⟩
theorem LateM.growA (h : LateM w lo cv lv cs ls) {n : Nat} (ho : OwnI w' lo w'.heap.size u zs) (hk : ∀ k, k < w.heap.size → cv.ownBlock ≠ some k → w'.heap[k]? = w.heap[k]?) (hz : w.heap.size ≤ w'.heap.size) (hn : w.heap.size ≤ n) (hb : u.ownBlock = cv.ownBlock ∨ u.ownBlock = some n) : LateM w' lo u lv zs ls := by
  refine ⟨ho, h.b.beside hz (Nat.le_trans h.b.own.hsz hz) hk (fun p hp e => h.ap p e hp), fun p hp e => ?_⟩
  rcases hb with hb | hb
  · exact h.ap p (by rw [← hb]; exact hp) e
  · have := h.b.own.blk p e
    rw [hb] at hp; injection hp with hp; omega
theorem LateM.growB (h : LateM w lo cv lv cs ls) {n : Nat} (ho : OwnN w' lo w'.heap.size u zs) (hk : ∀ k, k < w.heap.size → lv.ownBlock ≠ some k → w'.heap[k]? = w.heap[k]?) (hz : w.heap.size ≤ w'.heap.size) (hn : w.heap.size ≤ n) (hb : u.ownBlock = lv.ownBlock ∨ u.ownBlock = some n) : LateM w' lo cv u cs zs := by
  refine ⟨h.a.beside hz (Nat.le_trans h.a.own.hsz hz) hk (fun p hp e => h.ap p hp e), ho, fun p hp e => ?_⟩
  rcases hb with hb | hb
  · exact h.ap p hp (by rw [← hb]; exact e)
  · have := h.a.own.blk p hp
    rw [hb] at e; injection e with e; omega
end
theorem oneOwnN (w : World) (x : Int) (hx : I64 x) : OwnN (w.alloc (.cells #[.int .i64 x] 3)) w.heap.size (w.heap.size + 1) (.slice (some ⟨w.heap.size, 0, none⟩) 1 1) [x] :=
  ⟨⟨World.ownsRow_lit w #[.int .i64 x] 1 (Nat.le_refl _) (by simp [maxLen]) (by simp), fun k e => by simp [Value.ownBlock] at e; omega, by simp⟩, by simpa using hx, by simp⟩
theorem oneOwnI (w : World) (x : Int) (hx : I64 x) : OwnI (w.alloc (.cells #[.int .i64 x] 2)) w.heap.size (w.heap.size + 1) (.slice (some ⟨w.heap.size, 0, none⟩) 1 1) [x] :=
  ⟨⟨World.ownsRow_lit w #[.int .i64 x] 1 (Nat.le_refl _) (by simp [maxLen]) (by simp), fun k e => by simp [Value.ownBlock] at e; omega, by simp⟩, by simpa using hx, by simp⟩
theorem late_no {js : List JobD} (h : areJobs js = false) : leastLate js = ([], 0, false) := by rw [leastLate, h]; rfl
theorem late_yes {js : List JobD} (h : areJobs js = true) : leastLate js = ((orderGo js (2 ^ js.length) (2 ^ js.length - 1) []).reverse, costAt js (2 ^ js.length - 1), true) := by rw [leastLate, h]; rfl
theorem order_go {js : List JobD} (h : JobsOk js) {m i : Nat} {acc : List Int} (hm : m < 2 ^ js.length) (h0 : m ≠ 0) (hi : lastAt js m = (i : Int)) (hd : dgt m i = true) : orderGo js (2 ^ js.length) (m ^^^ 2 ^ i) (acc ++ [(i : Int)]) = orderGo js (2 ^ js.length) m acc := by
  have hp : 0 < 2 ^ js.length := Nat.pow_pos (by decide)
  have hx := xor_lt hd
  have e : 2 ^ js.length = (2 ^ js.length - 1) + 1 := by omega
  rw [← order_fuel h (2 ^ js.length - 1) (2 ^ js.length) (m ^^^ 2 ^ i) _ (by omega) (by omega) (by omega)]
  conv => rhs; rw [e, order_step h0, hi, Int.toNat_natCast]
theorem endIn_dig (js : List JobD) (i m : Nat) : endIn js (dig (i + 1) m) = if dgt m i then endIn js (dig i m) + (jobAt js i).x0 else endIn js (dig i m) := by
  rw [dig_succ]; split
  · rw [endIn_snoc]
  · rfl
def foldTo (js : List JobD) (m : Nat) (e : Int) (i : Nat) : Int × Int := (dig i m).foldl (lateStep js (costAt js) m e) (0, -1)
theorem fold_succ (js : List JobD) (m : Nat) (e : Int) (i : Nat) : foldTo js m e (i + 1) = if dgt m i then lateStep js (costAt js) m e (foldTo js m e i) i else foldTo js m e i := by
  unfold foldTo
  rw [dig_succ]; split
  · rw [List.foldl_append]; rfl
  · rfl
theorem fold_all (js : List JobD) (m : Nat) : foldTo js (m + 1) (setEnd js (m + 1)) js.length = (costAt js (m + 1), lastAt js (m + 1)) := (entry_eq js m).symm
theorem fold_rng {js : List JobD} (h : JobsOk js) {m : Nat} (hm : m < 2 ^ js.length) {e : Int} (h0 : 0 ≤ e) (h1 : e ≤ 12000) (i : Nat) (hi : i ≤ js.length) : 0 ≤ (foldTo js m e i).1 ∧ (foldTo js m e i).1 ≤ 12000000 * (m : Int) ∧ -1 ≤ (foldTo js m e i).2 ∧ (foldTo js m e i).2 < 12 := by
  have h12 := h.hi
  have hb := best_inv h (m := m) (fun q hq => ⟨(cost_rng h q (by omega)).1, (cost_rng h q (by omega)).2.1⟩) h0 h1 (dig i m) (0, -1) (fun k hk => ⟨by have := (dig_mem.1 hk).1; omega, (dig_mem.1 hk).2⟩) (.inl rfl)
  rcases hb with ⟨hd, _⟩ | ⟨b1, b2, k, hk, hkl, _⟩
  · unfold foldTo; rw [hd]
    exact ⟨by simp, by show (0 : Int) ≤ 12000000 * (m : Int); omega, by simp, by simp⟩
  · refine ⟨b1, b2, ?_, ?_⟩
    · show -1 ≤ ((dig i m).foldl (lateStep js (costAt js) m e) (0, -1)).2
      rw [hk]; omega
    · show ((dig i m).foldl (lateStep js (costAt js) m e) (0, -1)).2 < 12
      rw [hk]; omega
set_option maxHeartbeats 2000000 in
set_option maxRecDepth 100000 in
theorem specLeastLate_any (w : World) {l h : Nat} (v : Value) (js : List JobD) (hv : Jobs w l h v js) (hh : h ≤ w.heap.size) (hz : js.length ≤ 1048576) :
    Calls Try.prog 16 #[v] w fun e w' => ∃ r, e = .returned (.tuple #[r, .int .i64 (leastLate js).2.1, .bool (leastLate js).2.2]) ∧ OwnI w' w.heap.size w'.heap.size r (leastLate js).1 ∧ Below w.heap.size w w' := by
  obtain ⟨ja, jc, rfl, hc1, hc2, hd⟩ := hv.out
  have HAR := Lib.hid (l06Are_any _ js w hv)
  have HV := Lib.hid hv
  clear hv hd
  cases hok : areJobs js
  · have HE := Lib.hid (late_no hok)
    rw [hok] at HAR
    go_enter Try.func16, Try.ntmps16
    go_wp2_with fail
    refine HAR.out.mono ?_
    rintro e w' ⟨rfl, rfl⟩
    go_wp2
    go_ret3
    exact ⟨_, by rw [HE.out]; rfl, by rw [HE.out]; exact OwnI.nil _ _ _ (Nat.le_refl _), Below.refl _ _⟩
  have HE := Lib.hid (late_yes hok)
  have HJ := Lib.hid (jobsOk hok)
  rw [hok] at HAR
  have hn1 := HJ.out.lo
  have hn2 := HJ.out.hi
  obtain ⟨N, hN⟩ : ∃ N : Nat, N = 2 ^ js.length := ⟨_, rfl⟩
  have hsh := (shl_pow js.length (by omega)).1
  have hN12 : N ≤ 4096 := by
    have : 2 ^ js.length ≤ 2 ^ 12 := Nat.pow_le_pow_right (by decide) hn2
    omega
  have hN1 : 2 ≤ N := by
    have : 2 ^ 1 ≤ 2 ^ js.length := Nat.pow_le_pow_right (by decide) hn1
    omega
  rw [← hN] at hsh HE
  have HN := Lib.hid hN
  obtain ⟨W1, hW1⟩ : ∃ W, W = w.alloc (.cells #[.int .i64 0] 2) := ⟨_, rfl⟩
  obtain ⟨W2, hW2⟩ : ∃ W, W = W1.alloc (.cells #[.int .i64 (-1)] 3) := ⟨_, rfl⟩
  have hs1 : W1.heap.size = w.heap.size + 1 := by rw [hW1]; simp
  have hs2 : W2.heap.size = w.heap.size + 1 + 1 := by rw [hW2]; simp [hs1]
  have hb1 : Below w.heap.size w W1 := by rw [hW1]; exact alloc_belowW _ _
  have hb2 : Below W1.heap.size W1 W2 := by rw [hW2]; exact alloc_belowW _ _
  have HM0 : Hid (LateM W2 w.heap.size (.slice (some ⟨w.heap.size, 0, none⟩) 1 1) (.slice (some ⟨w.heap.size + 1, 0, none⟩) 1 1) (costL js 1) (lastL js 1)) := by
    have e1 : costL js 1 = [0] := rfl
    have e2 : lastL js 1 = [-1] := rfl
    rw [Hid, e1, e2]
    refine ⟨?_, ?_, fun p hp e => by simp [Value.ownBlock] at hp e; omega⟩
    · have h1 := oneOwnI w 0 (by unfold I64; omega)
      rw [← hW1] at h1
      exact (h1.below hb2 (by omega)).mono (Nat.le_refl _) (by omega) (Nat.le_refl _)
    · have h1 := oneOwnN W1 (-1) (by unfold I64; omega)
      rw [← hW2] at h1
      rw [hs1] at h1
      exact h1.mono (by omega) (by omega) (Nat.le_refl _)
  have HB0 : Hid (Below w.heap.size w W2) := hb1.trans (hb2.mono (by omega))
  have HWE : Hid (W2 = (w.alloc (.cells #[.int .i64 0] 2)).alloc (.cells #[.int .i64 (-1)] 3)) := by rw [Hid, hW2, hW1]
  have HFD := Lib.hid (fun (m i : Nat) (hm : m < 4096) => dgt_one m i (by omega))
  have HSHI : Hid (∀ i : Nat, i ≤ 20 → IntKind.i64.wrap ((2 : Int) ^ i) = ((2 ^ i : Nat) : Int)) := fun i hi => (shl_pow i hi).1
  obtain ⟨jb, joff, hja⟩ : ∃ b off, ja = some ⟨b, off, none⟩ := by
    obtain ⟨a', cap', e, h1, h2, hd⟩ := HV.out.out
    simp only [Value.slice.injEq] at e
    obtain ⟨rfl, _, _⟩ := e
    rcases hd with rfl | ⟨b', off', r1, _⟩
    · simp at hn1
    · exact ⟨b', off', r1⟩
  subst hja
  clear hok hN hs1 hs2 hb1 hb2 hW1 hW2
  go_enter Try.func16, Try.ntmps16
  go_wp2_with fail
  refine HAR.out.mono ?_
  rintro e w' ⟨rfl, rfl⟩
  go_wp2_with fail
  rw [← HWE.out]
  go_loopw [6, 7, 8] (fun cv lv mv wr => ∃ m : Nat, 1 ≤ m ∧ m ≤ N ∧ mv = .int .i64 m ∧ Hid (LateM wr w.heap.size cv lv (costL js m) (lastL js m)) ∧ Hid (Below w.heap.size w wr)) (fun _ _ mv _ => N - (intOf mv).toNat)
  case atStart => exact ⟨1, Nat.le_refl _, by omega, rfl, HM0, HB0⟩
  case round =>
    clear HM0 HB0
    obtain ⟨m, hm1, hm2, rfl, HM, HB⟩ := hrel
    have hcl := costL_len js m
    have hll := lastL_len js m
    obtain ⟨ca, cc, hce⟩ := HM.out.a.shape'
    rw [hcl] at hce
    subst hce
    obtain ⟨la, lc, hle⟩ := HM.out.b.shape'
    rw [hll] at hle
    subst hle
    have hs := HB.out.size
    by_cases hlt : m < N
    · have hmi : (m : Int) < (N : Int) := by omega
      have hm4 : m < 4096 := by omega
      have HML : Hid (m < 2 ^ js.length) := by rw [Hid, ← HN.out]; exact hlt
      have HVr := Lib.hid (HV.out.below HB.out hh)
      clear hcl hll
      go_wp2_with fail
      go_loop [9, 10] (fun ev iv => ∃ i : Nat, i ≤ js.length ∧ iv = .int .i64 i ∧ ev = .int .i64 (endIn js (dig i m))) (fun _ iv => js.length - (intOf iv).toNat)
      case atStart => exact ⟨0, Nat.zero_le _, rfl, rfl⟩
      case round =>
        obtain ⟨i, hi, rfl, rfl⟩ := hrel
        by_cases hil : i < js.length
        · obtain ⟨c0, _, _, _⟩ := jobs_cells HVr.out hil
          have hjo := (okJob_iff.1 (HJ.out.at' hil)).1
          have her := endIn_rng HJ.out (dig i m) (fun k hk => by have := (dig_mem.1 hk).1; omega)
          have hdl := dig_len i m
          have HED := Lib.hid (endIn_dig js i m)
          have hb := HFD.out m i hm4
          obtain ⟨x, hx⟩ : ∃ x, x = (jobAt js i).x0 := ⟨_, rfl⟩
          obtain ⟨E, hE⟩ : ∃ E, E = endIn js (dig i m) := ⟨_, rfl⟩
          rw [← hx] at c0 hjo HED
          rw [← hE] at her HED
          rw [← hE]
          have hx1 := hjo.1
          have hx2 := hjo.2
          have he1 := her.1
          have he2 : E ≤ 12000 := by omega
          clear hjo her hdl hx hE
          cases hd : dgt m i
          · rw [hd] at hb HED
            simp only [if_false, Bool.false_eq_true] at hb
            have HE2 : Hid (endIn js (dig (i + 1) m) = E) := HED.out
            clear hd
            go_wp2
            go_round
            case rel => exact ⟨i + 1, by omega, by go_num, by rw [HE2.out]⟩
            case measure => simp [intOf]; omega
          · rw [hd] at hb HED
            simp only [if_true] at hb
            have HE2 : Hid (endIn js (dig (i + 1) m) = E + x) := HED.out
            clear hd
            go_wp2
            go_round
            case rel => exact ⟨i + 1, by omega, by go_num, by rw [HE2.out]⟩
            case measure => simp [intOf]; omega
        · obtain rfl : i = js.length := by omega
          obtain ⟨E, hE⟩ : ∃ E, E = endIn js (dig js.length m) := ⟨_, rfl⟩
          have her := setEnd_rng HJ.out m
          have hE' : E = setEnd js m := hE
          rw [← hE'] at her
          rw [← hE]
          have HEE := Lib.hid hE'
          have he1 := her.1
          have he2 := her.2
          obtain ⟨wu, hwu⟩ : ∃ wu : World, wu = wr := ⟨_, rfl⟩
          rw [← hwu] at HM HB HVr hs
          rw [← hwu]
          clear hE hE' her hwu
          go_wp2_with fail
          go_loopw [11, 12, 13] (fun bv lv iv wr => ∃ i : Nat, i ≤ js.length ∧ iv = .int .i64 i ∧ bv = .int .i64 (foldTo js m E i).1 ∧ lv = .int .i64 (foldTo js m E i).2 ∧ Drew wu wr) (fun _ _ iv _ => js.length - (intOf iv).toNat)
          case atStart => exact ⟨0, Nat.zero_le _, rfl, rfl, rfl, Drew.refl _⟩
          case round =>
            obtain ⟨i, hi, rfl, rfl, rfl, hD⟩ := hrel
            by_cases hil : i < js.length
            · have hfr := fold_rng HJ.out HML.out he1 he2 i hi
              have HFS := Lib.hid (fold_succ js m E i)
              obtain ⟨sb, hsb⟩ : ∃ s, s = (foldTo js m E i).1 := ⟨_, rfl⟩
              obtain ⟨sl, hsl⟩ : ∃ s, s = (foldTo js m E i).2 := ⟨_, rfl⟩
              have HST : Hid (foldTo js m E i = (sb, sl)) := by rw [Hid, hsb, hsl]
              rw [← hsb, ← hsl] at hfr
              rw [← hsb, ← hsl]
              rw [HST.out] at HFS
              obtain ⟨f1, f2, f3, f4⟩ := hfr
              have hb := HFD.out m i hm4
              clear hsb hsl
              cases hd : dgt m i
              · rw [hd] at hb HFS
                simp only [if_false, Bool.false_eq_true] at hb
                have HF2 : Hid (foldTo js m E (i + 1) = (sb, sl)) := HFS.out
                clear hd
                go_wp2
                go_roundw
                case rel => exact ⟨i + 1, by omega, by go_num, by rw [HF2.out], by rw [HF2.out], hD⟩
                case measure => simp [intOf]; omega
              · rw [hd] at hb HFS
                simp only [if_true] at hb
                have hxl := xor_lt hd
                have hsh2 := HSHI.out i (by omega)
                have hp20 := (shl_pow i (by omega)).2
                have hxn := xor_nat m (2 ^ i) (by omega) (by omega)
                have hla := lateAt_rng HJ.out hil he1 he2
                have hca := (cost_rng HJ.out (m ^^^ 2 ^ i) (by have := HML.out; omega))
                obtain ⟨ca1, ca2, _⟩ := hca
                obtain ⟨jc0, jc1, jc2, hjb⟩ := jobs_cells (HVr.out.drew hD) hil
                obtain ⟨cb, coff, hcae, hcb, hcc⟩ := (HM.out.drew hD).a.rd.cellOf (j := m ^^^ 2 ^ i) (by rw [costL_len]; exact hxl)
                have hck := hcc (m ^^^ 2 ^ i) (by rw [costL_len]; exact hxl)
                rw [costL_get js hxl] at hck
                have HLT := Lib.hid (fun n => l06Late_any (jobAt js i) jb (joff + i * 4) E (wr.drewN n) jc1 jc2 (HJ.out.at' hil) he1 he2)
                have hle : (jobAt js i).x2 * max 0 (E - (jobAt js i).x1) = lateAt js i E := rfl
                rw [hle] at HLT
                have HFX : Hid (foldTo js m E (i + 1) = if sl < 0 ∨ costAt js (m ^^^ 2 ^ i) + lateAt js i E < sb then (costAt js (m ^^^ 2 ^ i) + lateAt js i E, (i : Int)) else (sb, sl)) := HFS.out
                obtain ⟨p, hp⟩ : ∃ p, p = 2 ^ i := ⟨_, rfl⟩
                rw [← hp] at hsh2 hp20 hxn hck HFX hxl ca1 ca2
                obtain ⟨q, hq⟩ : ∃ q, q = m ^^^ p := ⟨_, rfl⟩
                rw [← hq] at hxn hck HFX hxl ca1 ca2
                obtain ⟨cq, hcq⟩ : ∃ c, c = costAt js q := ⟨_, rfl⟩
                rw [← hcq] at hck HFX ca1 ca2
                obtain ⟨la', hla'⟩ : ∃ c, c = lateAt js i E := ⟨_, rfl⟩
                rw [← hla'] at HLT HFX hla
                have l1 := hla.1
                have l2 := hla.2
                subst hcae
                clear hd hcc hle HFS jc0 jc1 jc2 hla hp hq hcq hla'
                by_cases hsl0 : sl < 0
                · have HF2 : Hid (foldTo js m E (i + 1) = (cq + la', (i : Int))) := by rw [Hid, HFX.out, if_pos (.inl hsl0)]
                  go_wp2_with fail
                  go_quiet ((go_at_call 52; exact quiet_drew (HLT.out _)))
                  go_wp2
                  go_roundw
                  case rel => exact ⟨i + 1, by omega, by go_num, by rw [HF2.out], by rw [HF2.out], hD.step _⟩
                  case measure => simp [intOf]; omega
                · by_cases hcs : cq + la' < sb
                  · have HF2 : Hid (foldTo js m E (i + 1) = (cq + la', (i : Int))) := by rw [Hid, HFX.out, if_pos (.inr hcs)]
                    go_wp2_with fail
                    go_quiet ((go_at_call 52; exact quiet_drew (HLT.out _)))
                    go_wp2
                    go_roundw
                    case rel => exact ⟨i + 1, by omega, by go_num, by rw [HF2.out], by rw [HF2.out], hD.step _⟩
                    case measure => simp [intOf]; omega
                  · have HF2 : Hid (foldTo js m E (i + 1) = (sb, sl)) := by rw [Hid, HFX.out, if_neg (fun h' => by rcases h' with h' | h' <;> omega)]
                    go_wp2_with fail
                    go_quiet ((go_at_call 52; exact quiet_drew (HLT.out _)))
                    go_wp2
                    go_roundw
                    case rel => exact ⟨i + 1, by omega, by go_num, by rw [HF2.out], by rw [HF2.out], hD.step _⟩
                    case measure => simp [intOf]; omega
            · obtain rfl : i = js.length := by omega
              have HFA : Hid (foldTo js m E js.length = (costAt js m, lastAt js m)) := by
                obtain ⟨m', rfl⟩ : ∃ m', m = m' + 1 := ⟨m - 1, by omega⟩
                rw [Hid, HEE.out]; exact fold_all js m'
              have hcr := cost_rng HJ.out m HML.out
              obtain ⟨k, hk1, hk2, _⟩ := hcr.2.2 (by omega)
              obtain ⟨cm, hcm⟩ : ∃ c, c = costAt js m := ⟨_, rfl⟩
              obtain ⟨lm, hlm⟩ : ∃ c, c = lastAt js m := ⟨_, rfl⟩
              have e1 : (foldTo js m E js.length).1 = cm := by rw [HFA.out, hcm]
              have e2 : (foldTo js m E js.length).2 = lm := by rw [HFA.out, hlm]
              rw [e1, e2]
              rw [← hcm] at hcr
              rw [← hlm] at hk1
              have kc : I64 cm := by unfold I64; omega
              have kl : I64 lm := by unfold I64; omega
              have HCS : Hid (costL js m ++ [cm] = costL js (m + 1)) := by rw [Hid, costL_succ, hcm]
              have HLS : Hid (lastL js m ++ [lm] = lastL js (m + 1)) := by rw [Hid, lastL_succ, hlm]
              have HMd := Lib.hid (HM.out.drew hD)
              have HBd : Hid (Below w.heap.size w wr) := HB.out.trans (hD.below _)
              have hsd := HBd.out.size
              have HLN : Hid ((costL js m).length + 1 ≤ 1099511627776 ∧ (lastL js m).length + 1 ≤ 1099511627776) := by rw [Hid, costL_len, lastL_len]; omega
              clear e1 e2 hcr hk1 hcm hlm hD
              go_wp2_with (at_builtin; refine wpList_app1K rfl _ _ rfl _ (costL js m) rfl cm _ HMd.out.a rfl kc HLN.out.1 hsd ?_)
              intro v3 w3 ho3 hk3 hsm3 hz3 hb3
              rw [HCS.out] at ho3
              have HM3 := Lib.hid (HMd.out.growA ho3 hk3 (by omega) (Nat.le_succ _) hb3)
              have HB3 := Lib.hid (HBd.out.trans (hsm3.below (Nat.le_refl _) hsd))
              have hs3 := HB3.out.size
              obtain ⟨ya, yc, hye⟩ := ho3.shape'
              rw [costL_len] at hye
              subst hye
              clear ho3 hk3 hsm3 hz3 hb3
              go_wp2_with (at_builtin; refine wpList_app1KN rfl _ _ rfl _ (lastL js m) rfl lm _ HM3.out.b rfl kl HLN.out.2 hs3 ?_)
              intro v4 w4 ho4 hk4 hsm4 hz4 hb4
              rw [HLS.out] at ho4
              have HM4 := Lib.hid (HM3.out.growB ho4 hk4 (by omega) (Nat.le_succ _) hb4)
              have HB4 := Lib.hid (HB3.out.trans (hsm4.below (Nat.le_refl _) hs3))
              obtain ⟨za, zc, hze⟩ := ho4.shape'
              rw [lastL_len] at hze
              subst hze
              clear ho4 hk4 hsm4 hz4 hb4
              go_wp2
              go_roundw
              case rel => exact ⟨m + 1, by omega, by omega, by go_num, HM4, HB4⟩
              case measure => simp [intOf]; omega
    · obtain rfl : m = N := by omega
      obtain ⟨wu, hwu⟩ : ∃ wu : World, wu = wr := ⟨_, rfl⟩
      rw [← hwu] at HM HB hs
      rw [← hwu]
      have hcl0 := costL_len js m
      have hll0 := lastL_len js m
      obtain ⟨cb, coff, hcae, hcb, hcc⟩ := HM.out.a.rd.cellOf (j := m - 1) (by rw [hcl0]; omega)
      obtain ⟨lb, loff, hlae, hlb, hlc⟩ := HM.out.b.rd.cellOf (j := m - 1) (by rw [hll0]; omega)
      subst hcae
      subst hlae
      have hckN := hcc (m - 1) (by rw [hcl0]; omega)
      rw [costL_get js (by omega)] at hckN
      have HCK := Lib.hid hckN
      have HLC : Hid (∀ q, q < m → wu.cell? ⟨lb, loff + q, none⟩ = some (.int .i64 (lastAt js q))) := fun q hq => by
        have h1 := hlc q (by rw [hll0]; exact hq)
        rwa [lastL_get js hq] at h1
      have h0 := emptySlice wu
      have hs0 : (wu.alloc (.cells #[] 2)).heap.size = wu.heap.size + 1 := by simp
      have H0 : Hid (OwnI (wu.alloc (.cells #[] 2)) wu.heap.size (wu.alloc (.cells #[] 2)).heap.size (.slice (some ⟨wu.heap.size, 0, none⟩) 0 0) []) := h0.mono (Nat.le_refl _) (by omega) (Nat.le_refl _)
      have HB0 := Lib.hid (alloc_belowW wu (.cells #[] 2))
      have HHB := HB
      clear hwu hcl hll hcl0 hll0 hcc hlc hckN h0 hs0
      go_wp2_with fail
      go_loopw [15, 16] (fun bv mv wr => ∃ (q : Nat) (acc : List Int), q < m ∧ mv = .int .i64 q ∧ Hid (orderGo js m q acc = orderGo js m (m - 1) []) ∧ acc.length + q ≤ m ∧ Hid (OwnI wr wu.heap.size wr.heap.size bv acc) ∧ Hid (Below wu.heap.size wu wr)) (fun _ mv _ => (intOf mv).toNat)
      case atStart => exact ⟨m - 1, [], by omega, by congr 1; omega, Lib.hid rfl, by simp, H0, HB0⟩
      case round =>
        clear H0 HB0
        obtain ⟨q, acc, hq, rfl, HG, hal, HO, HBr⟩ := hrel
        obtain ⟨oa, oc, rfl⟩ := HO.out.shape'
        have hsr := HBr.out.size
        by_cases hq0 : q = 0
        · subst hq0
          have HAC : Hid (orderGo js m (m - 1) [] = acc) := by rw [Hid, ← HG.out, order_end]
          have hck : wr.cell? ⟨cb, coff + (m - 1), none⟩ = some (.int .i64 (costAt js (m - 1))) := by rw [HBr.out.cell (p := ⟨cb, coff + (m - 1), none⟩) (show cb < wu.heap.size by omega)]; exact HCK.out
          have hDr : Drew wr wr.drew := ⟨1, rfl⟩
          have HBK := Lib.hid (l04Back_any _ acc wr.drew (HO.out.rd.drew hDr) (by rw [hDr.heap]; exact Nat.le_refl _) (by omega))
          have HBD : Hid (Below wr.heap.size wr wr.drew) := hDr.below _
          obtain ⟨R, hR⟩ : ∃ R, R = acc.reverse := ⟨_, rfl⟩
          rw [HAC.out, ← hR] at HE
          rw [← hR] at HBK
          obtain ⟨cm, hcm⟩ : ∃ c, c = costAt js (m - 1) := ⟨_, rfl⟩
          rw [← hcm] at hck HE
          have HCM := Lib.hid hck
          have hcbw : cb < wr.heap.size := by omega
          have hlow : w.heap.size ≤ wr.heap.size := by omega
          have HM1 : Hid (IntKind.i64.wrap ((m : Int) - 1) = ((m - 1 : Nat) : Int)) := by rw [Hid, IntWalk.i64_in _ (by omega)]; omega
          have hm1i : ((m - 1 : Nat) : Int) < (m : Int) := by omega
          clear hDr hcm hR
          go_wp2_with fail
          have hw1 := HM1.out
          go_region_law ((go_simp; go_at_call 53; refine HBK.out.mono ?_; rintro e w7 ⟨u7, rfl, ho7, hb7⟩; obtain ⟨ra, rc, rfl⟩ := ho7.shape'; have HB7 := Lib.hid (HBD.out.trans hb7); have hck7 : w7.cell? ⟨cb, coff + (m - 1), none⟩ = some (.int .i64 cm) := (by rw [HB7.out.cell (p := ⟨cb, coff + (m - 1), none⟩) hcbw]; exact HCM.out); have HO7 := Lib.hid ho7; clear ho7 hb7))
          all_goals
            clear hw1
            have HBF := Lib.hid (HHB.out.trans ((HBr.out.trans (HB7.out.mono hsr)).mono hs))
            go_wp2
            go_ret3
            exact ⟨_, by rw [HE.out]; rfl, by rw [HE.out]; exact HO7.out.mono hlow (Nat.le_refl _) (Nat.le_refl _), HBF.out⟩
        · obtain ⟨i, hi1, hi2, hid⟩ := (cost_rng HJ.out q (by rw [← HN.out]; exact hq)).2.2 hq0
          have hlq := HLC.out q hq
          rw [hi1] at hlq
          have hlqr : wr.cell? ⟨lb, loff + q, none⟩ = some (.int .i64 (i : Int)) := by rw [HBr.out.cell (p := ⟨lb, loff + q, none⟩) (show lb < wu.heap.size by omega)]; exact hlq
          have hxl := xor_lt hid
          have HOG : Hid (orderGo js m (q ^^^ 2 ^ i) (acc ++ [(i : Int)]) = orderGo js m q acc) := by
            have h1 := order_go HJ.out (acc := acc) (by rw [← HN.out]; exact hq) hq0 hi1 hid
            rw [← HN.out] at h1; exact h1
          have hsh2 := HSHI.out i (by omega)
          have hp20 := (shl_pow i (by omega)).2
          have hxn := xor_nat q (2 ^ i) (by omega) (by omega)
          obtain ⟨p, hp⟩ : ∃ p, p = 2 ^ i := ⟨_, rfl⟩
          rw [← hp] at hsh2 hp20 hxn HOG hxl
          obtain ⟨q2, hq2⟩ : ∃ q2, q2 = q ^^^ p := ⟨_, rfl⟩
          rw [← hq2] at hxn HOG hxl
          have HLQ := Lib.hid hlq
          have ki : I64 (i : Int) := by unfold I64; omega
          have hqi : (0 : Int) < (q : Int) := by omega
          have HG2 : Hid (orderGo js m q2 (acc ++ [(i : Int)]) = orderGo js m (m - 1) []) := by rw [Hid, HOG.out]; exact HG.out
          clear hi1 hid hlq hp hq2
          go_wp2_with (at_builtin; refine wpList_app1 rfl _ _ rfl _ acc rfl (i : Int) _ HO.out rfl ki (by omega) hsr ?_)
          intro v3 w3 ho3 hsm3 hz3 _
          have HB3 := Lib.hid (HBr.out.trans (hsm3.below (Nat.le_refl _) hsr))
          have HO3 := Lib.hid ho3
          obtain ⟨ya, yc, rfl⟩ := ho3.shape1'
          have hlq3 : w3.cell? ⟨lb, loff + q, none⟩ = some (.int .i64 (i : Int)) := by rw [HB3.out.cell (p := ⟨lb, loff + q, none⟩) (show lb < wu.heap.size by omega)]; exact HLQ.out
          clear ho3 hsm3 hz3 hlqr
          go_wp2
          go_roundw
          case rel => exact ⟨q2, acc ++ [(i : Int)], by omega, by first | rfl | go_num, HG2, by rw [List.length_append]; simp; omega, HO3, HB3⟩
          case measure => (simp [intOf]; try omega)
end Go.Proofs.Yteoikfddebbakaa
