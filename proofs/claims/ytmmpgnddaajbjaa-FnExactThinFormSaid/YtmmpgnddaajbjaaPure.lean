/-
  The reference's PureIn (letters that stand with one sign alone) and what it calls.
-/
import Derived.Test.YtmmpgnddaajbjaaApp
import Derived.Test.YtmmpgnddaajbjaaModels
import Derived.OwnWalk
namespace Go.Proofs.Ytmmpgnddaajbjaa
open Go.RowKit
set_option linter.unusedVariables false

set_option maxHeartbeats 400000 in
theorem l00Has_any {l h : Nat} (v : Value) (zs : List Int) (n : Int) (w : World) (hv : Ints w l h v zs) :
    Calls Try.prog 81 #[v, .int .i64 n] w fun e w' => e = .returned (.bool (hasI zs n)) ∧ w = w' := by
  obtain ⟨a, cap, rfl, hc1, hc2, hd⟩ := hv.out
  go_enter Try.func81, Try.ntmps81
  go_wp2_with fail
  go_loop [5] (fun i => ∃ k : Nat, k ≤ zs.length ∧ i = .int .i64 k ∧ Hid (hasI (zs.drop k) n = hasI zs n)) (fun i => zs.length - (intOf i).toNat)
  case atStart => exact ⟨0, Nat.zero_le _, rfl, Lib.hid rfl⟩
  case round =>
    obtain ⟨k, hk, rfl, H⟩ := hrel
    by_cases hlt : k < zs.length
    · have HD := Lib.hid (drop_cons zs k hlt)
      rcases hd with rfl | ⟨b, off, rfl, hb1, hb2, hb3, hcell⟩
      · simp at hlt
      have hck := hcell k hlt
      clear hcell
      cases hin : (zs[k] == n)
      · go_wp2
        go_round
        case rel => exact ⟨k + 1, by omega, by go_num, Lib.hid (by rw [← H.out, HD.out, hasI, hin, Bool.false_or])⟩
        case measure => simp [intOf]; omega
      · go_wp2
        go_ret
        exact ⟨ret_bool (by rw [← H.out, HD.out, hasI, hin, Bool.true_or]), rfl⟩
    · go_wp2
      go_ret
      exact ⟨ret_bool (by rw [← H.out, drop_len _ _ (by omega)]; rfl), rfl⟩
/-- a literal stands in a clause of the list -/
def hasAny (cs : List (List Int)) (x : Int) : Bool := cs.any fun c => hasI c x
def pureOf (cs : List (List Int)) (x : Int) : List Int := if hasAny cs x && !hasAny cs (-x) then [x] else if hasAny cs (-x) && !hasAny cs x then [-x] else []
theorem pureOf_same {cs : List (List Int)} {x : Int} {b : Bool} (h1 : hasAny cs x = b) (h2 : hasAny cs (-x) = b) : pureOf cs x = [] := by
  unfold pureOf; rw [h1, h2]; cases b <;> rfl
theorem pureOf_up {cs : List (List Int)} {x : Int} (h1 : hasAny cs x = true) (h2 : hasAny cs (-x) = false) : pureOf cs x = [x] := by
  unfold pureOf; rw [h1, h2]; rfl
theorem pureOf_down {cs : List (List Int)} {x : Int} (h1 : hasAny cs x = false) (h2 : hasAny cs (-x) = true) : pureOf cs x = [-x] := by
  unfold pureOf; rw [h1, h2]; rfl
def pureFrom (cs : List (List Int)) : Int → Nat → List Int
  | _, 0 => []
  | x, k + 1 => pureOf cs x ++ pureFrom cs (x + 1) k
def pureIn (f : FormD) : List Int × Bool := if validForm f then (pureFrom f.clauses 1 f.letters.toNat, true) else ([], false)
set_option maxHeartbeats 2000000 in
theorem specPureIn_any (w : World) {l h : Nat} (v : Value) (f : FormD) (hv : FormR w l h v f) (hh : h ≤ w.heap.size) (hz : SmallII f.clauses) :
    Calls Try.prog 40 #[v] w fun e w' => ∃ r, e = .returned (.tuple #[r, .bool (pureIn f).2]) ∧ OwnI w' w.heap.size w'.heap.size r (pureIn f).1 ∧ Below w.heap.size w w' := by
  obtain ⟨u, rfl, hu⟩ := hv.ex
  have kL := hv.rng
  obtain ⟨a0, cap0, V0, e0, _⟩ := hu.out
  subst e0
  obtain ⟨W, hW⟩ : ∃ W, W = w.alloc (.cells #[.int .i64 f.letters, .slice a0 f.clauses.length cap0] 27) := ⟨_, rfl⟩
  have hBW : Below w.heap.size w W := by rw [hW]; exact alloc_below _ _
  have hsW : W.heap.size = w.heap.size + 1 := by rw [hW]; simp
  have hbx : BoxF W w.heap.size f.letters (.slice a0 f.clauses.length cap0) := by rw [hW]; exact BoxF.new _ _ _ _
  have HU := Lib.hid (hu.below hBW hh)
  have HB := Lib.hid hbx
  have hcl : f.clauses.length ≤ 1048576 := hz.1
  clear hbx hu hv
  go_enter Try.func40, Try.ntmps40
  go_wp2_with fail
  rw [← hW]
  clear hW
  refine (l05Is_any W _ _ f HB.out.c0 HB.out.c1 (by omega) kL HU.out (by omega)).mono ?_
  rintro e w2 ⟨rfl, hb2⟩
  have hs2 := hb2.size
  cases hval : validForm f
  · have HE := Lib.hid (show pureIn f = ([], false) by simp [pureIn, hval])
    go_wp2
    go_ret2
    exact ⟨_, by rw [HE.out]; rfl, by rw [HE.out]; exact OwnI.nil _ _ _ (Nat.le_refl _), hBW.trans (hb2.mono hBW.size)⟩
  · obtain ⟨L, hL, hL1, hL2⟩ := lettersN hval
    have HE := Lib.hid (show pureIn f = (pureFrom f.clauses 1 L, true) by simp [pureIn, hval, hL])
    have hB2 := HB.out.below hb2 HB.out.lt
    rw [hL] at hB2
    have HB2 := Lib.hid hB2
    have HU2 := Lib.hid (HU.out.below hb2 (by omega))
    have h0 := emptySlice w2
    clear hval hB2
    go_wp2_with fail
    go_loopw [4, 5] (fun a i wr => ∃ (k : Nat) (out : List Int), 1 ≤ k ∧ k ≤ L + 1 ∧ i = .int .i64 k ∧ OwnI wr w2.heap.size wr.heap.size a out ∧ Hid (out ++ pureFrom f.clauses (k : Int) (L + 1 - k) = pureFrom f.clauses 1 L) ∧ out.length ≤ k ∧ Below w2.heap.size w2 wr) (fun _ i _ => L + 1 - (intOf i).toNat)
    case atStart => exact ⟨1, [], Nat.le_refl _, by omega, rfl, by simpa using h0, Lib.hid (by simp), by simp, alloc_below _ _⟩
    case round =>
      clear h0
      obtain ⟨k, out, hk1, hk, rfl, ho, H, hol, hb⟩ := hrel
      have hs3 := hb.size
      have HO := Lib.hid ho
      have HB3 := Lib.hid (HB2.out.below hb HB2.out.lt)
      have HU3 := Lib.hid (HU2.out.below hb (by omega))
      have c0 := HB3.out.c0
      have c1 := HB3.out.c1
      clear ho
      by_cases hlt : k ≤ L
      · obtain ⟨a1, cap1, V, e1, hc1, hc2, hV, hd⟩ := HU3.out.out
        simp only [Value.slice.injEq] at e1
        obtain ⟨rfl, _, rfl⟩ := e1
        have HV := Lib.hid hV
        clear hV
        have hsz : wr.heap.size ≤ wr.heap.size := Nat.le_refl _
        obtain ⟨wu, hwu⟩ : ∃ wu : World, wu = wr := ⟨_, rfl⟩
        rw [← hwu] at hb hs3 HO HB3 HU3 c0 c1 hd HV
        rw [← hwu]
        clear hwu hsz
        go_wp2_with fail
        go_loopw [6, 7, 21] (fun p q i wr => ∃ (j : Nat) (U D : Bool), j ≤ f.clauses.length ∧ i = .int .i64 j ∧ p = .bool U ∧ q = .bool D ∧ Hid ((U || hasAny (f.clauses.drop j) (k : Int)) = hasAny f.clauses (k : Int)) ∧ Hid ((D || hasAny (f.clauses.drop j) (-(k : Int))) = hasAny f.clauses (-(k : Int))) ∧ wu = wr) (fun _ _ i _ => f.clauses.length - (intOf i).toNat)
        case atStart => exact ⟨0, false, false, Nat.zero_le _, rfl, rfl, rfl, Lib.hid rfl, Lib.hid rfl, rfl⟩
        case round =>
          obtain ⟨j, U, D, hj, rfl, rfl, rfl, GU, GD, rfl⟩ := hrel
          by_cases hjl : j < f.clauses.length
          · have HD := Lib.hid (drop_cons f.clauses j hjl)
            rcases hd with hd | ⟨b, off, rfl, hb1, hbb2, hbb3, hcell⟩
            · rw [hd] at hjl; simp at hjl
            have hck := hcell j hjl
            have hx := Lib.hid (HV.out j hjl)
            clear hcell
            have HS1 : Hid (hasAny (f.clauses.drop j) (k : Int) = (hasI f.clauses[j] (k : Int) || hasAny (f.clauses.drop (j + 1)) (k : Int))) := by rw [Hid, HD.out]; rfl
            have HS2 : Hid (hasAny (f.clauses.drop j) (-(k : Int)) = (hasI f.clauses[j] (-(k : Int)) || hasAny (f.clauses.drop (j + 1)) (-(k : Int)))) := by rw [Hid, HD.out]; rfl
            have HC1 := Lib.hid (l00Has_any _ f.clauses[j] (k : Int) wu hx.out)
            have HC2 := Lib.hid (l00Has_any _ f.clauses[j] (-(k : Int)) wu hx.out)
            cases U <;> cases D
            case true.true =>
              go_wp2
              go_roundw
              case rel => exact ⟨j + 1, true, true, by omega, by go_num, rfl, rfl, GU, GD, by first | rfl | trivial⟩
              case measure => simp [intOf]; omega
            case false.false =>
              go_wp2_with (go_at_call 81; refine (l00Has_any _ _ _ _ hx.out).mono ?_; rintro e w' ⟨rfl, rfl⟩)
              go_roundw
              case rel => exact ⟨j + 1, _, _, by omega, by go_num, rfl, rfl, Lib.hid (by rw [← GU.out, HS1.out, Bool.false_or]), Lib.hid (by rw [← GD.out, HS2.out, Bool.false_or]), by first | rfl | trivial⟩
              case measure => simp [intOf]; omega
            case false.true =>
              go_wp2_with (go_at_call 81; refine (l00Has_any _ _ _ _ hx.out).mono ?_; rintro e w' ⟨rfl, rfl⟩)
              go_roundw
              case rel => exact ⟨j + 1, _, true, by omega, by go_num, rfl, rfl, Lib.hid (by rw [← GU.out, HS1.out, Bool.false_or]), Lib.hid (by rw [← GD.out]; rfl), by first | rfl | trivial⟩
              case measure => simp [intOf]; omega
            case true.false =>
              go_wp2_with (go_at_call 81; refine (l00Has_any _ _ _ _ hx.out).mono ?_; rintro e w' ⟨rfl, rfl⟩)
              go_roundw
              case rel => exact ⟨j + 1, true, _, by omega, by go_num, rfl, rfl, Lib.hid (by rw [← GU.out]; rfl), Lib.hid (by rw [← GD.out, HS2.out, Bool.false_or]), by first | rfl | trivial⟩
              case measure => simp [intOf]; omega
          · obtain rfl : j = f.clauses.length := by omega
            have EU := GU.out
            have ED := GD.out
            rw [drop_len _ _ (Nat.le_refl _)] at EU ED
            have HEU : Hid (hasAny f.clauses (k : Int) = U) := by rw [Hid, ← EU]; simp [hasAny]
            have HED : Hid (hasAny f.clauses (-(k : Int)) = D) := by rw [Hid, ← ED]; simp [hasAny]
            have HN : Hid (L + 1 - k = (L + 1 - (k + 1)) + 1) := by show L + 1 - k = _; omega
            have hkk : Hid (((k + 1 : Nat) : Int) = (k : Int) + 1) := by show ((k + 1 : Nat) : Int) = _; omega
            clear EU ED GU GD
            cases U <;> cases D
            case true.true =>
              go_wp2
              go_roundw
              case rel => exact ⟨k + 1, out, by omega, by omega, by go_num, HO.out, Lib.hid (by rw [← H.out, HN.out, pureFrom, pureOf_same HEU.out HED.out, List.nil_append, hkk.out]), by omega, hb⟩
              case measure => simp [intOf]; omega
            case false.false =>
              go_wp2
              go_roundw
              case rel => exact ⟨k + 1, out, by omega, by omega, by go_num, HO.out, Lib.hid (by rw [← H.out, HN.out, pureFrom, pureOf_same HEU.out HED.out, List.nil_append, hkk.out]), by omega, hb⟩
              case measure => simp [intOf]; omega
            case true.false =>
              go_wp2_with (at_builtin; refine wpList_app1 rfl _ _ rfl _ out rfl (k : Int) _ HO.out rfl (by constructor <;> omega) (by omega) hs3 ?_)
              intro v2 w3 ho2 hsm hz3 _
              have HO2 := Lib.hid ho2
              clear ho2
              go_wp2
              go_roundw
              case rel => exact ⟨k + 1, out ++ [(k : Int)], by omega, by omega, by go_num, HO2.out, Lib.hid (by rw [← H.out, HN.out, pureFrom, pureOf_up HEU.out HED.out, List.append_assoc, hkk.out]), by simp; omega, hb.trans (hsm.below (Nat.le_refl _) hs3)⟩
              case measure => simp [intOf]; omega
            case false.true =>
              go_wp2_with (at_builtin; refine wpList_app1 rfl _ _ rfl _ out rfl (-(k : Int)) _ HO.out rfl (by constructor <;> omega) (by omega) hs3 ?_)
              intro v2 w3 ho2 hsm hz3 _
              have HO2 := Lib.hid ho2
              clear ho2
              go_wp2
              go_roundw
              case rel => exact ⟨k + 1, out ++ [-(k : Int)], by omega, by omega, by go_num, HO2.out, Lib.hid (by rw [← H.out, HN.out, pureFrom, pureOf_down HEU.out HED.out, List.append_assoc, hkk.out]), by simp; omega, hb.trans (hsm.below (Nat.le_refl _) hs3)⟩
              case measure => simp [intOf]; omega
      · obtain rfl : k = L + 1 := by omega
        go_wp2
        go_ret2
        refine ⟨_, by rw [HE.out]; rfl, ?_, hBW.trans ((hb2.trans (hb.mono hs2)).mono hBW.size)⟩
        rw [HE.out, ← H.out, Nat.sub_self, pureFrom, List.append_nil]
        exact HO.out.mono (by omega) (Nat.le_refl _) (Nat.le_refl _)
end Go.Proofs.Ytmmpgnddaajbjaa
