/-
  ProveNo: contracts in the reference and in the program.
-/
import Derived.Test.YtdeelgnfnhdklaaProveS
import Derived.Test.YtdeelgnfnhdklaaProveI
import Derived.Test.YtdeelgnfnhdklaaCore
namespace Go.Proofs.Ytdeelgnfnhdklaa
open Go.RowKit
set_option linter.unusedVariables false

def proveRes : Option (List (List Int)) → List (List Int) × Bool
  | some P => (P, true)
  | none => ([], false)
def proveNoF (f : FormD) : List (List Int) × Bool := if okCore f then proveRes (proveGo f.letters.toNat f.clauses 11 [] []) else ([], false)
theorem proveNo_no {f : FormD} (h : okCore f = false) : proveNoF f = ([], false) := by rw [proveNoF, h]; rfl
theorem proveNo_yes {f : FormD} {L : Nat} (h : okCore f = true) (hL : f.letters.toNat = L) : proveNoF f = proveRes (proveGo L f.clauses 11 [] []) := by rw [proveNoF, h, if_pos rfl, hL]
theorem emptyRows (w : World) : OwnII (w.alloc (.cells #[] 40)) w.heap.size (w.heap.size + 1) (.slice (some ⟨w.heap.size, 0, none⟩) 0 0) [] :=
  ⟨⟨[], rfl, ⟨World.ownsRow_lit w #[] 0 (Nat.le_refl _) (by simp [maxLen]) (by simp), fun k e => by simp [Value.ownBlock] at e; omega, by simp⟩, fun i h => by simp at h, fun i j _ h => by simp at h, fun i h => by simp at h⟩, by simp⟩
theorem noInts (w : World) (a : Option Addr) : Ints w 0 0 (.slice a 0 0) [] := ⟨⟨a, 0, rfl, Nat.le_refl _, by omega, .inl rfl⟩, by simp⟩
theorem form_lits {f : FormD} {L : Nat} (hL : f.letters = (L : Int)) (h : validForm f = true) : ∀ c ∈ f.clauses, ∀ x ∈ c, isLit (L : Int) x = true := by
  rw [← hL]; exact valid_lits h
set_option maxHeartbeats 2000000 in
set_option maxRecDepth 100000 in
theorem specProveNo_any (w : World) {l h : Nat} (v : Value) (f : FormD) (hv : FormR w l h v f) (hh : h ≤ w.heap.size) (hz : SmallII f.clauses) :
    Calls Try.prog 57 #[v] w fun e w' => ∃ r, e = .returned (.tuple #[r, .bool (proveNoF f).2]) ∧ OwnII w' w.heap.size w'.heap.size r (proveNoF f).1 ∧ Below w.heap.size w w' := by
  obtain ⟨u, rfl, hu⟩ := hv.ex
  have kL := hv.rng
  obtain ⟨ca, ccap, CV, rfl, cc1, cc2, CR, cd⟩ := hu.out
  obtain ⟨W, hW⟩ : ∃ W, W = w.alloc (.cells #[.int .i64 f.letters, .slice ca f.clauses.length ccap] 29) := ⟨_, rfl⟩
  have hBW : Below w.heap.size w W := by rw [hW]; exact alloc_below _ _
  have hsW : W.heap.size = w.heap.size + 1 := by rw [hW]; simp
  have hbx : BoxF W w.heap.size f.letters (.slice ca f.clauses.length ccap) := by rw [hW]; exact BoxF.new _ _ _ _
  have HU := Lib.hid (hu.below hBW hh)
  have HB := Lib.hid hbx
  have HBW := Lib.hid hBW
  have hW1 : w.heap.size < W.heap.size := by omega
  have hhW : h ≤ W.heap.size := by omega
  clear hbx hu hv cd CR hBW hsW
  go_enter Try.func57, Try.ntmps57
  go_wp2_with fail
  rw [← hW]
  clear hW
  refine (l05Is_any W _ _ f HB.out.c0 HB.out.c1 hW1 kL HU.out hhW).mono ?_
  rintro e w2 ⟨rfl, hb2⟩
  have hs2 := hb2.size
  have HB2 := Lib.hid (HB.out.below hb2 hW1)
  have HBW2 := Lib.hid (HBW.out.trans (hb2.mono (by omega)))
  have HU2 := Lib.hid (HU.out.below hb2 hhW)
  cases hval : validForm f
  · have HE := Lib.hid (proveNo_no (f := f) (by rw [okCore, hval]; rfl))
    clear hb2
    go_wp2
    go_ret2
    exact ⟨_, by rw [HE.out]; rfl, by rw [HE.out]; exact OwnII.nil _ _ _ (Nat.le_refl _), HBW2.out⟩
  obtain ⟨L, hL, hL1, hL2⟩ := lettersN hval
  have hLt : f.letters.toNat = L := by omega
  have hcl48 := (validForm_bounds hval).2.1
  have HLA := Lib.hid (litsAll_of_valid hL hval)
  have HLI := Lib.hid (form_lits hL hval)
  rw [hL] at HB2
  have HC := Lib.hid (l05First_any w.heap.size L _ f.clauses w2 HB2.out.c0 HB2.out.c1 HU2.out HLA.out hL2 (by omega))
  have HOK : Hid (okCore f = !hasM L f.clauses) := by rw [Hid, okCore, hval, hLt]; rfl
  have HLT := Lib.hid hLt
  have HZ := Lib.hid hz
  clear hval hb2 hLt hz
  go_wp2_with fail
  refine HC.out.mono ?_
  rintro e w3 ⟨hd3, ⟨rfl, hf⟩ | ⟨n, hn1, rfl, hf⟩⟩
  case inr =>
    have HE : Hid (proveNoF f = ([], false)) := proveNo_no (by rw [HOK.out, hasM, hf]; rfl)
    have HD3 := Lib.hid hd3
    have hnn : (0 : Int) ≤ (n : Int) := by omega
    clear hf hd3
    go_wp2
    go_ret2
    exact ⟨_, by rw [HE.out]; rfl, by rw [HE.out]; exact OwnII.nil _ _ _ (Nat.le_refl _), HBW2.out.trans (HD3.out.below _)⟩
  have HE : Hid (proveNoF f = proveRes (proveGo L f.clauses 11 [] [])) := proveNo_yes (by rw [HOK.out, hasM, hf]; rfl) HLT.out
  have hs3 : w2.heap.size ≤ w3.heap.size := by rw [hd3.heap]; exact Nat.le_refl _
  have HBW3 := Lib.hid (HBW2.out.trans (hd3.below w.heap.size))
  have HB3 := Lib.hid (HB2.out.drew hd3)
  have HU3 := Lib.hid (HU2.out.drew hd3)
  have hb4 : Below w3.heap.size w3 (w3.alloc (.cells #[] 2)) := alloc_below _ _
  have hs4 : (w3.alloc (.cells #[] 2)).heap.size = w3.heap.size + 1 := by simp
  have hb5 : Below (w3.alloc (.cells #[] 2)).heap.size (w3.alloc (.cells #[] 2)) ((w3.alloc (.cells #[] 2)).alloc (.cells #[] 40)) := alloc_below _ _
  have hs5 : ((w3.alloc (.cells #[] 2)).alloc (.cells #[] 40)).heap.size = w3.heap.size + 1 + 1 := by simp
  have ho5 := emptyRows (w3.alloc (.cells #[] 2))
  obtain ⟨W5, hW5⟩ : ∃ W, W = (w3.alloc (.cells #[] 2)).alloc (.cells #[] 40) := ⟨_, rfl⟩
  rw [← hW5] at hb5 hs5 ho5
  rw [hs4] at hb5 ho5
  have hB5 : Below w3.heap.size w3 W5 := hb4.trans (hb5.mono (by omega))
  have HPR := Lib.hid (l05Prove_any 11 W5 w.heap.size L _ (.slice (some ⟨w3.heap.size, 0, none⟩) 0 0) (.slice (some ⟨w3.heap.size + 1, 0, none⟩) 0 0) f.clauses [] [] (lo := w3.heap.size + 1)
    (HB3.out.below hB5 (by omega)).c0 (HB3.out.below hB5 (by omega)).c1 (by omega) (HU3.out.below hB5 (by omega)) (by omega) HZ.out HLI.out (noInts _ _) (Nat.zero_le _) (fun p _ => .inr (Nat.zero_le _)) (Cons.nil _)
    (ho5.mono (Nat.le_refl _) (by omega) (Nat.le_refl _)) (by omega) (by simp) (by simp) hL2 (by simp))
  have HB5 := Lib.hid (HBW3.out.trans (hB5.mono (by omega)))
  clear hf hd3 HC HOK ho5 hb4 hb5 hB5
  go_wp2_with fail
  rw [← hW5]
  clear hW5
  refine HPR.out.mono ?_
  rintro e w6 ⟨hk6, ⟨hn6, rfl⟩ | ⟨P, r6, he6, rfl, ho6, hb6⟩⟩
  all_goals
    have HB6 := Lib.hid (HB5.out.trans (hk6.below (B := w.heap.size) (by omega) (fun p hp => by simp [Value.ownBlock] at hp; omega)))
    clear hk6
  · have HE2 : Hid (proveNoF f = ([], false)) := by rw [Hid, HE.out, hn6]; rfl
    clear hn6
    go_wp2
    go_ret2
    exact ⟨_, by rw [HE2.out]; rfl, by rw [HE2.out]; exact OwnII.nil _ _ _ (Nat.le_refl _), HB6.out⟩
  · have HE2 : Hid (proveNoF f = (P, true)) := by rw [Hid, HE.out, he6]; rfl
    have HO6 := Lib.hid ho6
    clear he6 ho6 hb6
    go_wp2
    go_ret2
    exact ⟨r6, by rw [HE2.out]; rfl, by rw [HE2.out]; exact HO6.out.mono (by omega) (Nat.le_refl _) (Nat.le_refl _), HB6.out⟩
set_option maxHeartbeats 2000000 in
set_option maxRecDepth 100000 in
theorem implProveNo_any (w : World) {l h : Nat} (v : Value) (f : FormD) (hv : FormR w l h v f) (hh : h ≤ w.heap.size) (hz : SmallII f.clauses) :
    Calls Try.prog 58 #[v] w fun e w' => ∃ r, e = .returned (.tuple #[r, .bool (proveNoF f).2]) ∧ OwnII w' w.heap.size w'.heap.size r (proveNoF f).1 ∧ Below w.heap.size w w' := by
  have qT : ∀ (w : World) (a : Option Addr) (n c n' c' : Nat), (binOp .neq 25 (.slice a n c) (.slice none n' c')).run Try.prog w = .ok (.bool (!a.isNone)) w := fun w a n c n' c' => run_neq_slice_nil_any w _ _ a n c n' c' Try.underlying25
  obtain ⟨u, rfl, hu⟩ := hv.ex
  obtain ⟨ca, ccap, CV, rfl, cc1, cc2, CR, cd⟩ := hu.out
  obtain ⟨W, hW⟩ : ∃ W, W = w.alloc (.cells #[.int .i64 f.letters, .slice ca f.clauses.length ccap] 29) := ⟨_, rfl⟩
  have hBW : Below w.heap.size w W := by rw [hW]; exact alloc_below _ _
  have hsW : W.heap.size = w.heap.size + 1 := by rw [hW]; simp
  have hbx : BoxF W w.heap.size f.letters (.slice ca f.clauses.length ccap) := by rw [hW]; exact BoxF.new _ _ _ _
  have HU := Lib.hid (hu.below hBW hh)
  have HF := Lib.hid (hv.below hBW hh)
  have HB := Lib.hid hbx
  have HBW := Lib.hid hBW
  have HZ := Lib.hid hz
  have hW1 : w.heap.size < W.heap.size := by omega
  have k0 := hbx.c0
  have k1 := hbx.c1
  clear hbx hu hv cd CR hBW hsW
  go_enter Try.func58, Try.ntmps58
  go_wp2_with fail
  rw [← hW]
  clear hW
  go_wp2_with fail
  refine (implValidForm_any W _ _ HF.out (by omega) hz).mono ?_
  rintro e w2 ⟨rfl, hb2⟩
  clear k0 k1
  have hs2 := hb2.size
  have k0 := (HB.out.below hb2 hW1).c0
  have k1 := (HB.out.below hb2 hW1).c1
  have HB2 := Lib.hid (HB.out.below hb2 hW1)
  have HBW2 := Lib.hid (HBW.out.trans (hb2.mono (by omega)))
  have HU2 := Lib.hid (HU.out.below hb2 (by omega))
  cases hval : validForm f
  · have HE := Lib.hid (proveNo_no (f := f) (by rw [okCore, hval]; rfl))
    go_wp2
    go_ret2
    exact ⟨_, by rw [HE.out]; rfl, by rw [HE.out]; exact OwnII.nil _ _ _ (Nat.le_refl _), HBW2.out⟩
  obtain ⟨L, hL, hL1, hL2⟩ := lettersN hval
  have hLt : f.letters.toNat = L := by omega
  have hcl48 := (validForm_bounds hval).2.1
  have HLA := Lib.hid (litsAll_of_valid hL hval)
  have HLI := Lib.hid (form_lits hL hval)
  have HC := Lib.hid (firstModelOf_any w2 L _ f.clauses (HU.out.below hb2 (by omega)) (by omega) HLA.out (by omega) hL2 hL1)
  rw [hL] at k0 HB2
  have HOK : Hid (okCore f = !hasM L f.clauses) := by rw [Hid, okCore, hval, hLt]; rfl
  have HLT := Lib.hid hLt
  clear hval hb2 hLt
  go_wp2_with fail
  refine HC.out.mono ?_
  rintro e w3 ⟨r, rfl, hb3, ⟨hf, rfl⟩ | ⟨n, hf, ho⟩⟩
  case inr =>
    have HE : Hid (proveNoF f = ([], false)) := proveNo_no (by rw [HOK.out, hasM, hf]; rfl)
    obtain ⟨g, gc, rfl⟩ := valuesN_slice ho hL1
    clear hf ho
    go_wp2
    go_ret2
    exact ⟨_, by rw [HE.out]; rfl, by rw [HE.out]; exact OwnII.nil _ _ _ (Nat.le_refl _), HBW2.out.trans (hb3.mono (by omega))⟩
  have HE : Hid (proveNoF f = proveRes (proveGo L f.clauses 11 [] [])) := proveNo_yes (by rw [HOK.out, hasM, hf]; rfl) HLT.out
  have hs3 := hb3.size
  have HBW3 := Lib.hid (HBW2.out.trans (hb3.mono (by omega)))
  have HB3 := Lib.hid (HB2.out.below hb3 (by omega))
  have HU3 := Lib.hid (HU2.out.below hb3 (by omega))
  clear k0 k1
  have k0 := HB3.out.c0
  have k1 := HB3.out.c1
  have HPR := Lib.hid (prove_any 11 w3 L _ (.slice none 0 0) (.slice none 0 0) f.clauses [] [] (lo := w3.heap.size)
    HU3.out (by omega) HZ.out HLI.out (noInts _ _) (Nat.zero_le _) (fun p _ => .inr (Nat.zero_le _)) (Cons.nil _)
    (OwnII.nil _ _ _ (Nat.le_refl _)) (Nat.le_refl _) (by simp) (by simp) hL2 (by simp))
  clear hf hb3 HC HOK
  go_wp2_with fail
  refine HPR.out.mono ?_
  rintro e w6 ⟨hk6, ⟨hn6, r6, rfl⟩ | ⟨P, r6, he6, rfl, ho6, hb6⟩⟩
  all_goals
    have HB6 := Lib.hid (HBW3.out.trans (hk6.below (B := w.heap.size) (by omega) (fun p hp => by simp [Value.ownBlock] at hp)))
    clear hk6
  · have HE2 : Hid (proveNoF f = ([], false)) := by rw [Hid, HE.out, hn6]; rfl
    clear hn6
    go_wp2
    go_ret2
    exact ⟨_, by rw [HE2.out]; rfl, by rw [HE2.out]; exact OwnII.nil _ _ _ (Nat.le_refl _), HB6.out⟩
  · have HE2 : Hid (proveNoF f = (P, true)) := by rw [Hid, HE.out, he6]; rfl
    have HO6 := Lib.hid ho6
    clear he6 ho6 hb6
    go_wp2
    go_ret2
    exact ⟨r6, by rw [HE2.out]; rfl, by rw [HE2.out]; exact HO6.out.mono (by omega) (Nat.le_refl _) (Nat.le_refl _), HB6.out⟩
end Go.Proofs.Ytdeelgnfnhdklaa
