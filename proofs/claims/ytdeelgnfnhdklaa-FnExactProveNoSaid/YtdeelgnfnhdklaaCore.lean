/-
  CoreOf: plain laws and contracts in the program.
-/
import Derived.Test.YtdeelgnfnhdklaaFirstI
import Derived.Test.YtdeelgnfnhdklaaRef
namespace Go.Proofs.Ytdeelgnfnhdklaa
open Go.RowKit
set_option linter.unusedVariables false

def hasM (L : Nat) (cs : List (List Int)) : Bool := (firstFrom L cs 0 (2 ^ L)).isSome
def setN : List Bool → Nat → List Int
  | [], _ => []
  | b :: r, i => if b then (i : Int) :: setN r (i + 1) else setN r (i + 1)
theorem setN_snoc (A : List Bool) (b : Bool) (i : Nat) : setN (A ++ [b]) i = setN A i ++ (if b then [((i + A.length : Nat) : Int)] else []) := by
  induction A generalizing i with
  | nil => cases b <;> rfl
  | cons a r ih =>
    rw [List.cons_append, setN, setN, ih]
    have e : i + 1 + r.length = i + (a :: r).length := by simp; omega
    rw [e]
    cases a <;> simp
theorem setN_ge (A : List Bool) (i : Nat) (x : Int) (h : x ∈ setN A i) : (i : Int) ≤ x ∧ x < ((i + A.length : Nat) : Int) := by
  induction A generalizing i with
  | nil => simp [setN] at h
  | cons a r ih =>
    rw [setN] at h
    have hl : (a :: r).length = r.length + 1 := rfl
    cases a
    · have := ih (i + 1) (by simpa using h); omega
    · rw [if_pos rfl, List.mem_cons] at h
      rcases h with rfl | h
      · omega
      · have := ih (i + 1) h; omega
theorem setN_len (A : List Bool) (i : Nat) : (setN A i).length ≤ A.length := by
  induction A generalizing i with
  | nil => exact Nat.le_refl _
  | cons a r ih => rw [setN]; have := ih (i + 1); split <;> simp <;> omega
theorem setN_set (A : List Bool) (k i : Nat) (hk : k < A.length) : setN (A.set k false) i = (setN A i).filter fun x => decide (x ≠ ((i + k : Nat) : Int)) := by
  induction A generalizing k i with
  | nil => simp at hk
  | cons a r ih =>
    cases k with
    | zero =>
      rw [List.set_cons_zero, setN, setN, if_neg (by decide)]
      have e : ((setN r (i + 1)).filter fun x => decide (x ≠ ((i + 0 : Nat) : Int))) = setN r (i + 1) := by
        rw [List.filter_eq_self]
        intro x hx
        have := setN_ge r (i + 1) x hx
        simp; omega
      cases a
      · rw [if_neg (by decide), e]
      · rw [if_pos rfl, List.filter_cons, if_neg (by simp), e]
    | succ k =>
      rw [List.set_cons_succ, setN, setN, ih k (i + 1) (by simpa using hk)]
      rw [show i + 1 + k = i + (k + 1) by omega]
      cases a
      · rfl
      · rw [if_pos rfl, if_pos rfl, List.filter_cons, if_pos (by simp; omega)]
theorem setN_all (n i : Nat) : setN (List.replicate n true) i = (List.range n).map fun k => ((i + k : Nat) : Int) := by
  induction n generalizing i with
  | zero => rfl
  | succ n ih =>
    rw [List.replicate_succ, setN, if_pos rfl, ih, List.range_succ_eq_map, List.map_cons, List.map_map]
    congr 1
    refine List.map_congr_left fun k _ => ?_
    simp only [Function.comp_apply]
    congr 1; omega
def pick (cs : List (List Int)) (S : List Int) : List (List Int) := S.map fun x => cs.getD x.toNat []
def coreGo (L : Nat) (cs : List (List Int)) : Nat → Nat → List Int → List Int
  | 0, _, S => S
  | m + 1, i, S => coreGo L cs m (i + 1) (if hasM L (pick cs (S.filter fun x => decide (x ≠ (i : Int)))) then S else S.filter fun x => decide (x ≠ (i : Int)))
def ups (n : Nat) : List Int := (List.range n).map fun (k : Nat) => (k : Int)
def coreOf (L : Nat) (cs : List (List Int)) : List Int := coreGo L cs cs.length 0 (ups cs.length)
def okCore (f : FormD) : Bool := validForm f && !hasM f.letters.toNat f.clauses
def coreF (f : FormD) : List Int × Bool := if okCore f then (coreOf f.letters.toNat f.clauses, true) else ([], false)
theorem coreF_no {f : FormD} (h : okCore f = false) : coreF f = ([], false) := by rw [coreF, h]; rfl
theorem coreF_yes {f : FormD} (h : okCore f = true) : coreF f = (coreOf f.letters.toNat f.clauses, true) := by rw [coreF, h]; rfl
theorem core_step {L : Nat} {cs : List (List Int)} {i n : Nat} {S : List Int} (h : i < n) : coreGo L cs (n - i) i S = coreGo L cs (n - (i + 1)) (i + 1) (if hasM L (pick cs (S.filter fun x => decide (x ≠ (i : Int)))) then S else S.filter fun x => decide (x ≠ (i : Int))) := by
  rw [show n - i = (n - (i + 1)) + 1 by omega, coreGo]
theorem pick_len (cs : List (List Int)) (S : List Int) : (pick cs S).length = S.length := List.length_map ..
theorem pick_snoc (cs : List (List Int)) (S : List Int) (x : Int) : pick cs (S ++ [x]) = pick cs S ++ [cs.getD x.toNat []] := by simp [pick]
theorem pick_all {P : List Int → Prop} {cs : List (List Int)} (h : ∀ c ∈ cs, P c) {S : List Int} (hS : ∀ x ∈ S, 0 ≤ x ∧ x < (cs.length : Int)) : ∀ c ∈ pick cs S, P c := fun c hc => by
  obtain ⟨x, hx, rfl⟩ := List.mem_map.1 hc
  have hb := hS x hx
  have hl : x.toNat < cs.length := by omega
  simp only [List.getD, List.getElem?_eq_getElem hl, Option.getD_some]
  exact h _ (List.getElem_mem hl)
theorem getDI_mem {A : List Int} {j : Nat} (h : j < A.length) : A.getD j 0 ∈ A := by simp [List.getD, h]
theorem fill_step {k n : Nat} (h : k < n) : List.replicate (k + 1) true ++ List.replicate (n - (k + 1)) false = (List.replicate k true ++ List.replicate (n - k) false).set k true := by
  have e1 : List.replicate (n - k) false = false :: List.replicate (n - (k + 1)) false := by rw [show n - k = (n - (k + 1)) + 1 by omega]; rfl
  rw [e1, List.set_append_right _ _ (by simp), List.length_replicate, Nat.sub_self, List.set_cons_zero, List.replicate_succ']
  simp
set_option maxHeartbeats 800000 in
set_option maxRecDepth 100000 in
theorem setOf_any {l h : Nat} (v : Value) (B : List Bool) (w : World) (hv : Bools w l h v B) (hh : h ≤ w.heap.size) (hz : B.length ≤ 1048576) :
    Calls Try.prog 77 #[v] w fun e w' => ∃ u, e = .returned u ∧ OwnI w' w.heap.size w'.heap.size u (setN B 0) ∧ Below w.heap.size w w' := by
  obtain ⟨a, cap, rfl, hc1, hc2, hd⟩ := hv.out
  clear hv
  go_enter Try.func77, Try.ntmps77
  go_wp2_with fail
  go_loopw [3, 8] (fun ov i wr => ∃ k : Nat, k ≤ B.length ∧ i = .int .i64 k ∧ OwnI wr w.heap.size wr.heap.size ov (setN (B.take k) 0) ∧ Below w.heap.size w wr) (fun _ i _ => B.length - (intOf i).toNat)
  case atStart => exact ⟨0, Nat.zero_le _, rfl, OwnI.nil _ _ _ (Nat.le_refl _), Below.refl _ _⟩
  case round =>
    obtain ⟨k, hk, rfl, ho, hb⟩ := hrel
    have hs := hb.size
    have HO := Lib.hid ho
    have HB := Lib.hid hb
    clear ho
    by_cases hlt : k < B.length
    · rcases hd with rfl | ⟨b, off, rfl, hb1, hb2, hb3, hcell⟩
      · simp at hlt
      have hck := hcell k hlt
      rw [← hb.cell (p := ⟨b, off + k, none⟩) (show b < w.heap.size by omega)] at hck
      have HT : Hid (setN (B.take (k + 1)) 0 = setN (B.take k) 0 ++ (if B[k] then [(k : Int)] else [])) := by
        rw [Hid, List.take_succ_eq_append_getElem hlt, setN_snoc, List.length_take, Nat.min_eq_left (by omega), Nat.zero_add]
      have HLN : Hid ((setN (B.take k) 0).length + 1 ≤ 1099511627776) := by
        have h1 := setN_len (B.take k) 0
        rw [List.length_take] at h1
        rw [Hid]; omega
      have hge : B.getD k false = B[k] := by simp [List.getD, hlt]
      rw [hge] at hck
      obtain ⟨t, ht⟩ : ∃ t, t = B[k] := ⟨_, rfl⟩
      rw [← ht] at hck HT
      clear hcell hge hb ht
      cases t
      · rw [if_neg (by decide), List.append_nil] at HT
        go_wp2
        go_roundw
        case rel => exact ⟨k + 1, by omega, by go_num, by rw [HT.out]; exact HO.out, HB.out⟩
        case measure => simp [intOf]; omega
      · rw [if_pos rfl] at HT
        go_wp2_with (at_builtin; refine wpList_app1 rfl _ _ rfl _ (setN (B.take k) 0) rfl (k : Int) _ HO.out rfl (by unfold I64; omega) HLN.out hs ?_)
        intro v2 w3 ho2 hsm hz3 _
        have HO2 : Hid (OwnI w3 w.heap.size w3.heap.size v2 (setN (B.take (k + 1)) 0)) := by rw [Hid, HT.out]; exact ho2
        have HB2 := Lib.hid (HB.out.trans (hsm.below (Nat.le_refl _) hs))
        clear ho2
        go_wp2
        go_roundw
        case rel => exact ⟨k + 1, by omega, by go_num, HO2.out, HB2.out⟩
        case measure => simp [intOf]; omega
    · obtain rfl : k = B.length := by omega
      rw [List.take_length] at HO
      go_wp2
      go_ret
      exact ⟨_, rfl, HO.out, HB.out⟩
theorem set_same {B : List Bool} {i : Nat} (h : B.getD i false = true) : (B.set i false).set i true = B := by
  refine List.ext_getElem? fun j => ?_
  rw [List.getElem?_set, List.getElem?_set]
  by_cases hj : i = j
  · subst hj
    by_cases hl : i < B.length
    · rw [if_pos rfl]
      simp [List.getD, hl] at h
      simp [hl, h]
    · simp [hl]
  · rw [if_neg hj, if_neg hj]
set_option maxHeartbeats 2000000 in
set_option maxRecDepth 100000 in
theorem implCoreOf_any (w : World) {l h : Nat} (v : Value) (f : FormD) (hv : FormR w l h v f) (hh : h ≤ w.heap.size) (hz : SmallII f.clauses) :
    Calls Try.prog 37 #[v] w fun e w' => ∃ r, e = .returned (.tuple #[r, .bool (coreF f).2]) ∧ OwnI w' w.heap.size w'.heap.size r (coreF f).1 ∧ Below w.heap.size w w' := by
  have qT : ∀ (w : World) (a : Option Addr) (n c n' c' : Nat), (binOp .neq 25 (.slice a n c) (.slice none n' c')).run Try.prog w = .ok (.bool (!a.isNone)) w := fun w a n c n' c' => run_neq_slice_nil_any w _ _ a n c n' c' Try.underlying25
  obtain ⟨u, rfl, hu⟩ := hv.ex
  obtain ⟨ca, ccap, CV, rfl, cc1, cc2, CR, cd⟩ := hu.out
  obtain ⟨W, hW⟩ : ∃ W, W = w.alloc (.cells #[.int .i64 f.letters, .slice ca f.clauses.length ccap] 29) := ⟨_, rfl⟩
  have hBW : Below w.heap.size w W := by rw [hW]; exact alloc_below _ _
  have hsW : W.heap.size = w.heap.size + 1 := by rw [hW]; simp
  have hbx : BoxF W w.heap.size f.letters (.slice ca f.clauses.length ccap) := by rw [hW]; exact BoxF.new _ _ _ _
  have CC : Hid (∀ (wx : World) (j : Nat), Below w.heap.size w wx → (hj : j < f.clauses.length) → ∃ b o, ca = some ⟨b, o, none⟩ ∧ wx.cell? ⟨b, o + j, none⟩ = some (CV j) ∧ Ints wx 0 w.heap.size (CV j) f.clauses[j]) := fun wx j hb hj => by
    rcases cd with e | ⟨b, o, e, r1, r2, r3, hc⟩
    · rw [e] at hj; simp at hj
    · exact ⟨b, o, e, by rw [hb.cell (p := ⟨b, o + j, none⟩) (show b < w.heap.size by omega)]; exact hc j hj, ((CR j hj).below hb hh).mono (Nat.zero_le _) hh hb.size⟩
  have HU := Lib.hid (hu.below hBW hh)
  have HF := Lib.hid (hv.below hBW hh)
  have HB := Lib.hid hbx
  have HBW := Lib.hid hBW
  have hW1 : w.heap.size < W.heap.size := by omega
  have k0 := hbx.c0
  have k1 := hbx.c1
  clear hbx hu hv cd CR hBW hsW
  go_enter Try.func37, Try.ntmps37
  go_wp2_with fail
  rw [← hW]
  clear hW
  go_wp2_with fail
  refine (implValidForm_any W _ _ HF.out (by omega) hz).mono ?_
  rintro e w2 ⟨rfl, hb2⟩
  clear k0 k1
  have hs2 := hb2.size
  have k0 := (HB.out.below hb2 hW1).c0
  have k1 := (HB.out.below hb2 hW1).c1
  have HB2 := Lib.hid (HB.out.below hb2 hW1)
  have HBW2 := Lib.hid (HBW.out.trans (hb2.mono (by omega)))
  cases hval : validForm f
  · have HE := Lib.hid (coreF_no (f := f) (by rw [okCore, hval]; rfl))
    go_wp2
    go_ret2
    exact ⟨_, by rw [HE.out]; rfl, by rw [HE.out]; exact OwnI.nil _ _ _ (Nat.le_refl _), HBW2.out⟩
  obtain ⟨L, hL, hL1, hL2⟩ := lettersN hval
  have hLt : f.letters.toNat = L := by omega
  have hcl48 := (validForm_bounds hval).2.1
  have HLA := Lib.hid (litsAll_of_valid hL hval)
  have HC := Lib.hid (firstModelOf_any w2 L _ f.clauses (HU.out.below hb2 (by omega)) (by omega) HLA.out (by omega) hL2 hL1)
  rw [hL] at k0 HB2
  have HOK : Hid (okCore f = !hasM L f.clauses) := by rw [Hid, okCore, hval, hLt]; rfl
  have HLT := Lib.hid hLt
  clear hval hb2 hLt
  go_wp2_with fail
  refine HC.out.mono ?_
  rintro e w3 ⟨r, rfl, hb3, ⟨hf, rfl⟩ | ⟨n, hf, ho⟩⟩
  case inr =>
    have HE : Hid (coreF f = ([], false)) := coreF_no (by rw [HOK.out, hasM, hf]; rfl)
    obtain ⟨g, gc, rfl⟩ := valuesN_slice ho hL1
    clear hf ho
    go_wp2
    go_ret2
    exact ⟨_, by rw [HE.out]; rfl, by rw [HE.out]; exact OwnI.nil _ _ _ (Nat.le_refl _), HBW2.out.trans (hb3.mono (by omega))⟩
  have HE : Hid (coreF f = (coreOf L f.clauses, true)) := by rw [Hid, coreF_yes (by rw [HOK.out, hasM, hf]; rfl), HLT.out]
  have hs3 := hb3.size
  have HBW3 := Lib.hid (HBW2.out.trans (hb3.mono (by omega)))
  have HB3 := Lib.hid (HB2.out.below hb3 (by omega))
  clear k0 k1
  have k0 := HB3.out.c0
  have k1 := HB3.out.c1
  obtain ⟨i0, hi, hz0, hz1, hz2⟩ := info_parts info_bool
  obtain ⟨N, hN⟩ : ∃ N, N = f.clauses.length := ⟨_, rfl⟩
  clear hf hb3 HC HOK
  go_wp2_with (refine wpList_make_full _ rfl _ _ 25 rfl w3.heap.size 4 i0 (.bool false) 1 Try.underlying25 hi hz0 hz1 .i64 .i64 _ _ f.clauses.length rfl rfl rfl rfl ?c1 (by unfold maxLen; omega) ?c2 ?_)
  case c1 => rw [hz2]; omega
  case c2 => exact Nat.le_refl _
  intro w4 hown hg
  have hrow := RowB.made hown
  have hb4 : Below w3.heap.size w3 w4 := (Below.refl _ _).grown hg (Nat.le_refl _) (fun k hk => by cases hk)
  have HROW := Lib.hid hrow
  have HB4 := Lib.hid hb4
  clear hown hg hrow hb4
  go_wp2_with fail
  go_loopw [27] (fun iv wr => ∃ k : Nat, k ≤ f.clauses.length ∧ iv = .int .i64 k ∧ RowB wr w3.heap.size w3.heap.size f.clauses.length f.clauses.length (List.replicate k true ++ List.replicate (f.clauses.length - k) false) ∧ Below w3.heap.size w3 wr) (fun iv _ => f.clauses.length - (intOf iv).toNat)
  case atStart => exact ⟨0, Nat.zero_le _, rfl, by simpa using HROW.out, HB4.out⟩
  case round =>
    clear HROW HB4
    obtain ⟨k, hk, rfl, hr, hb⟩ := hrel
    have hs := hb.size
    by_cases hlt : k < f.clauses.length
    · have fz := hr.frozen k
      have ck := hr.cell hlt
      have HR := Lib.hid hr
      have HBB := Lib.hid hb
      have HRS := Lib.hid (fill_step hlt)
      clear hr hb
      go_wp2
      go_roundw
      case rel => exact ⟨k + 1, by omega, by go_num, by rw [HRS.out]; exact HR.out.stored k true, HBB.out.setCell (Nat.le_refl _) _⟩
      case measure => simp [intOf]; omega
    · obtain rfl : k = f.clauses.length := by omega
      rw [Nat.sub_self, List.replicate_zero, List.append_nil] at hr
      obtain ⟨n, hn⟩ : ∃ n, n = f.clauses.length := ⟨_, rfl⟩
      have HR := Lib.hid hr
      have HBB := Lib.hid hb
      have HUP : Hid (setN (List.replicate f.clauses.length true) 0 = ups f.clauses.length) := by
        rw [Hid, setN_all, ups]
        exact List.map_congr_left fun k _ => by simp
      clear hr hb hn n
      go_wp2_with fail
      go_loopw [36] (fun iv wr => ∃ (k : Nat) (B : List Bool), k ≤ f.clauses.length ∧ iv = .int .i64 k ∧ RowB wr w3.heap.size w3.heap.size f.clauses.length f.clauses.length B ∧ Hid (∀ j, k ≤ j → j < f.clauses.length → B.getD j false = true) ∧ Hid (coreGo L f.clauses (f.clauses.length - k) k (setN B 0) = coreOf L f.clauses) ∧ Below w3.heap.size w3 wr) (fun iv _ => f.clauses.length - (intOf iv).toNat)
      case atStart => exact ⟨0, _, Nat.zero_le _, rfl, HR.out, Lib.hid (fun j _ hj => by simp [List.getD, hj]), Lib.hid (by rw [HUP.out]; rfl), HBB.out⟩
      case round =>
        clear HR HBB HUP
        obtain ⟨k, B, hk, rfl, hr, HT, H, hb⟩ := hrel
        have hs := hb.size
        have hBl := hr.length
        by_cases hlt : k < f.clauses.length
        · have fz := hr.frozen k
          have ck := hr.cell hlt
          have HBk := Lib.hid (HT.out k (Nat.le_refl _) hlt)
          obtain ⟨W1, hW1'⟩ : ∃ W1, W1 = wr.setCell ⟨w3.heap.size, k, none⟩ (.bool false) := ⟨_, rfl⟩
          have hr1 : RowB W1 w3.heap.size w3.heap.size f.clauses.length f.clauses.length (B.set k false) := by rw [hW1']; exact hr.stored k false
          have hb1 : Below w3.heap.size w3 W1 := by rw [hW1']; exact hb.setCell (Nat.le_refl _) _
          obtain ⟨S, hS⟩ : ∃ S, S = setN (B.set k false) 0 := ⟨_, rfl⟩
          have HSF : Hid (S = (setN B 0).filter fun x => decide (x ≠ (k : Int))) := by rw [Hid, hS, setN_set _ _ _ (by omega), Nat.zero_add]
          have HSR : Hid (∀ x ∈ S, 0 ≤ x ∧ x < (f.clauses.length : Int)) := fun x hx => by
            rw [hS] at hx
            have := setN_ge _ _ x hx
            rw [List.length_set, hBl] at this
            omega
          have hSl : S.length ≤ 48 := by rw [hS]; have := setN_len (B.set k false) 0; rw [List.length_set] at this; omega
          have hs1 := hb1.size
          have HSET := Lib.hid (setOf_any _ (B.set k false) W1 (hr1.rd hr1.lt (Nat.le_refl _)) (Nat.le_refl _) (by rw [List.length_set]; omega))
          rw [← hS] at HSET
          have HS0 := Lib.hid hS
          have HR1 := Lib.hid hr1
          have HB1 := Lib.hid hb1
          have HCS := Lib.hid (core_step (L := L) (cs := f.clauses) (S := setN B 0) hlt)
          rw [← HSF.out] at HCS
          have HBl := Lib.hid hBl
          clear hr hb hr1 hb1 hS hBl
          go_wp2_with fail
          rw [← hW1']
          clear hW1' fz ck
          refine HSET.out.mono ?_
          rintro e w5 ⟨u5, rfl, ho5, hb5⟩
          have hs5 := hb5.size
          obtain ⟨sa, sc, rfl, sc1, sc2, sd⟩ := ho5.rd.out
          have SC : Hid (∀ (wx : World) (j : Nat), Below w5.heap.size w5 wx → j < S.length → ∃ b o, sa = some ⟨b, o, none⟩ ∧ wx.cell? ⟨b, o + j, none⟩ = some (.int .i64 (S.getD j 0))) := fun wx j hbx hj => by
            rcases sd with e | ⟨b, o, e, r1, r2, r3, hc⟩
            · rw [e] at hj; simp at hj
            · exact ⟨b, o, e, by rw [hbx.cell (p := ⟨b, o + j, none⟩) (show b < w5.heap.size by omega)]; exact hc j hj⟩
          have HB5 := Lib.hid (HB1.out.trans (hb5.mono hs1))
          have HR5 := Lib.hid (HR1.out.below hb5 HR1.out.lt)
          clear ho5 sd hb5
          go_wp2_with fail
          go_loopw [7, 45] (fun ov iv wr => ∃ q : Nat, q ≤ S.length ∧ iv = .int .i64 q ∧ RefII wr w.heap.size w5.heap.size ov (pick f.clauses (S.take q)) ∧ Below w5.heap.size w5 wr) (fun _ iv _ => S.length - (intOf iv).toNat)
          case atStart => exact ⟨0, Nat.zero_le _, rfl, RefII.nil _ _ _ (by omega) (Nat.le_refl _), Below.refl _ _⟩
          case round =>
            obtain ⟨q, hq, rfl, hrf, hb6⟩ := hrel
            have hs6 := hb6.size
            have HRF := Lib.hid hrf
            have HB6 := Lib.hid hb6
            have k1 := ((HB3.out.below HB5.out (by omega)).below hb6 (by omega)).c1
            have k0 := ((HB3.out.below HB5.out (by omega)).below hb6 (by omega)).c0
            by_cases hql : q < S.length
            · obtain ⟨sb, so, rfl, sck⟩ := SC.out wr q hb6 hql
              have hxr := HSR.out _ (getDI_mem hql)
              obtain ⟨x, hx⟩ : ∃ x, x = S.getD q 0 := ⟨_, rfl⟩
              rw [← hx] at sck hxr
              obtain ⟨m, rfl⟩ : ∃ m : Nat, x = (m : Int) := ⟨x.toNat, by omega⟩
              have hml : m < f.clauses.length := by omega
              obtain ⟨cb, co, rfl, cck, cri⟩ := CC.out wr m ((HBW3.out.trans (HB5.out.mono (by omega))).trans (hb6.mono (by omega))) hml
              obtain ⟨ka, kc, hke, _, _, _⟩ := cri.out
              rw [hke] at cck cri
              have HTK : Hid (pick f.clauses (S.take (q + 1)) = pick f.clauses (S.take q) ++ [f.clauses[m]]) := by
                have e1 : S.take (q + 1) = S.take q ++ [S[q]] := List.take_succ_eq_append_getElem hql
                have e2 : S[q] = (m : Int) := by rw [hx]; simp [List.getD, hql]
                rw [Hid, e1, pick_snoc, e2, Int.toNat_natCast, List.getD, List.getElem?_eq_getElem hml]; rfl
              have HCR := Lib.hid cri
              have hll : (pick f.clauses (S.take q)).length + 1 ≤ 1048576 := by rw [pick_len, List.length_take]; omega
              have HLL := Lib.hid hll
              have hmi : (m : Int) < (f.clauses.length : Int) := by omega
              clear hrf hb6 hx hke cri hxr hll
              go_wp2_with (at_builtin; refine wpList_appRef rfl _ _ rfl _ (pick f.clauses (S.take q)) rfl HRF.out _ f.clauses[m] HCR.out _ rfl HLL.out ?_)
              intro v7 w7 hr7 hb7 hz7
              have HR7 : Hid (RefII w7 w.heap.size w5.heap.size v7 (pick f.clauses (S.take (q + 1)))) := by rw [Hid, HTK.out]; exact hr7
              have HB7 := Lib.hid (HB6.out.trans hb7)
              clear hr7 hb7
              go_wp2
              go_roundw
              case rel => exact ⟨q + 1, by omega, by go_num, HR7.out, HB7.out⟩
              case measure => simp [intOf]; omega
            · obtain rfl : q = S.length := by omega
              rw [List.take_length] at HRF
              have hpl : (pick f.clauses S).length ≤ 48 := by rw [pick_len]; exact hSl
              have HFM := Lib.hid (firstModelOf_any wr L _ (pick f.clauses S) HRF.out.rd (Nat.le_refl _) (pick_all HLA.out HSR.out) (by omega) hL2 hL1)
              have HR6 := Lib.hid (HR5.out.below hb6 (by have := HR5.out.lt; omega))
              have hgl : w3.heap.size < wr.heap.size := by have := HR5.out.lt; omega
              clear hrf hb6
              go_wp2_with fail
              refine HFM.out.mono ?_
              rintro e w8 ⟨r8, rfl, hb8, ⟨hf, rfl⟩ | ⟨n, hf, ho⟩⟩
              · have HR8 := Lib.hid (HR6.out.below hb8 hgl)
                have fz8 := HR8.out.frozen k
                have ck8 := HR8.out.cell hlt
                have HB8 : Hid (Below w3.heap.size w3 w8) := (HB5.out.trans (HB6.out.mono (by omega))).trans (hb8.mono (by omega))
                have HN : Hid (coreGo L f.clauses (f.clauses.length - (k + 1)) (k + 1) (setN ((B.set k false).set k false) 0) = coreOf L f.clauses) := by
                  rw [Hid, ← H.out, HCS.out, if_neg (by rw [hasM, hf]; decide), List.set_set, ← HS0.out]
                have HT2 : Hid (∀ j, k + 1 ≤ j → j < f.clauses.length → ((B.set k false).set k false).getD j false = true) := fun j h1 h2 => by
                  have := HT.out j (by omega) h2
                  simp only [List.getD] at this ⊢
                  rw [List.getElem?_set_ne (by omega), List.getElem?_set_ne (by omega)]; exact this
                clear hf hb8
                go_wp2
                go_roundw
                case rel => exact ⟨k + 1, _, by omega, by go_num, HR8.out.stored k false, HT2, HN, HB8.out.setCell (Nat.le_refl _) _⟩
                case measure => simp [intOf]; omega
              · have HR8 := Lib.hid (HR6.out.below hb8 hgl)
                have fz8 := HR8.out.frozen k
                have ck8 := HR8.out.cell hlt
                have HB8 : Hid (Below w3.heap.size w3 w8) := (HB5.out.trans (HB6.out.mono (by omega))).trans (hb8.mono (by omega))
                have HN : Hid (coreGo L f.clauses (f.clauses.length - (k + 1)) (k + 1) (setN ((B.set k false).set k true) 0) = coreOf L f.clauses) := by
                  rw [Hid, ← H.out, HCS.out, if_pos (by rw [hasM, hf]; rfl), set_same HBk.out]
                have HT2 : Hid (∀ j, k + 1 ≤ j → j < f.clauses.length → ((B.set k false).set k true).getD j false = true) := fun j h1 h2 => by
                  rw [set_same HBk.out]; exact HT.out j (by omega) h2
                obtain ⟨g8, gc8, rfl⟩ := valuesN_slice ho hL1
                clear hf hb8 ho
                go_wp2
                go_roundw
                case rel => exact ⟨k + 1, _, by omega, by go_num, HR8.out.stored k true, HT2, HN, HB8.out.setCell (Nat.le_refl _) _⟩
                case measure => simp [intOf]; omega
        · obtain rfl : k = f.clauses.length := by omega
          have HCO : Hid (setN B 0 = coreOf L f.clauses) := by rw [Hid, ← H.out, Nat.sub_self]; rfl
          have HSET := Lib.hid (setOf_any _ B wr (hr.rd hr.lt (Nat.le_refl _)) (Nat.le_refl _) (by omega))
          rw [HCO.out] at HSET
          have HBB := Lib.hid (HBW3.out.trans (hb.mono (by omega)))
          clear hr hb hBl
          go_wp2_with fail
          refine HSET.out.mono ?_
          rintro e w9 ⟨u9, rfl, ho9, hb9⟩
          have HO9 := Lib.hid ho9
          have HB9 := Lib.hid (HBB.out.trans (hb9.mono (by omega)))
          clear ho9 hb9
          go_wp2
          go_ret2
          exact ⟨_, by rw [HE.out]; rfl, by rw [HE.out]; exact HO9.out.mono (by omega) (Nat.le_refl _) (Nat.le_refl _), HB9.out⟩
end Go.Proofs.Ytdeelgnfnhdklaa
