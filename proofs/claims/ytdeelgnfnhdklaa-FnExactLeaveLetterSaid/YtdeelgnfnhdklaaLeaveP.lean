/-
  LeaveLetter: plain laws, and the last step in the reference and in the program.
-/
import Derived.Test.YtdeelgnfnhdklaaResolveI
import Derived.Test.YtdeelgnfnhdklaaThin
namespace Go.Proofs.Ytdeelgnfnhdklaa
open Go.RowKit
set_option linter.unusedVariables false

def leaveKeep (x : Int) (cs : List (List Int)) (n : Nat) : List (List Int) := (cs.take n).filter fun c => !hasI c x && !hasI c (-x)
def leavePair (x : Int) (a b : List Int) : List (List Int) := if hasI b (-x) && (resolveN a b x).2 then [(resolveN a b x).1] else []
def leaveRow (x : Int) (a : List Int) (cs : List (List Int)) (m : Nat) : List (List Int) := (cs.take m).flatMap (leavePair x a)
def leaveRows (x : Int) (cs : List (List Int)) (n : Nat) : List (List Int) := (cs.take n).flatMap fun a => if hasI a x then leaveRow x a cs cs.length else []
def leaveAll (x : Int) (cs : List (List Int)) : List (List Int) := leaveKeep x cs cs.length ++ leaveRows x cs cs.length
def checkedF (f : FormD) : FormD × Bool := if validForm f then (f, true) else (⟨0, []⟩, false)
def leaveF (f : FormD) (x : Int) : FormD × Bool := if validForm f && inB 1 f.letters x then checkedF ⟨f.letters, leaveAll x f.clauses⟩ else (⟨0, []⟩, false)
theorem leave_no {f : FormD} {x : Int} (h : (validForm f && inB 1 f.letters x) = false) : leaveF f x = (⟨0, []⟩, false) := by rw [leaveF, h]; rfl
theorem leave_yes {f : FormD} {x : Int} (h : (validForm f && inB 1 f.letters x) = true) : leaveF f x = checkedF ⟨f.letters, leaveAll x f.clauses⟩ := by rw [leaveF, h]; rfl
section
variable {x : Int} {cs : List (List Int)} {a : List Int} {n : Nat}
theorem keep_no (hn : n < cs.length) (h : (!hasI cs[n] x && !hasI cs[n] (-x)) = false) : leaveKeep x cs (n + 1) = leaveKeep x cs n := by
  rw [leaveKeep, List.take_succ_eq_append_getElem hn, List.filter_append]; simp only [List.filter_cons, h, List.filter_nil]; simp [leaveKeep]
theorem keep_yes (hn : n < cs.length) (h : (!hasI cs[n] x && !hasI cs[n] (-x)) = true) : leaveKeep x cs (n + 1) = leaveKeep x cs n ++ [cs[n]] := by
  rw [leaveKeep, List.take_succ_eq_append_getElem hn, List.filter_append]; simp only [List.filter_cons, h, List.filter_nil]; simp [leaveKeep]
theorem row_succ (hn : n < cs.length) : leaveRow x a cs (n + 1) = leaveRow x a cs n ++ leavePair x a cs[n] := by
  rw [leaveRow, List.take_succ_eq_append_getElem hn, List.flatMap_append]; simp [leaveRow]
theorem rows_succ (hn : n < cs.length) : leaveRows x cs (n + 1) = leaveRows x cs n ++ (if hasI cs[n] x then leaveRow x cs[n] cs cs.length else []) := by
  rw [leaveRows, List.take_succ_eq_append_getElem hn, List.flatMap_append]; simp [leaveRows]
theorem rows_no (hn : n < cs.length) (h : hasI cs[n] x = false) : leaveRows x cs (n + 1) = leaveRows x cs n := by rw [rows_succ hn, h]; simp
theorem rows_yes (hn : n < cs.length) (h : hasI cs[n] x = true) : leaveRows x cs (n + 1) = leaveRows x cs n ++ leaveRow x cs[n] cs cs.length := by rw [rows_succ hn, h]; rfl
theorem pair_no {b : List Int} (h : hasI b (-x) = false) : leavePair x a b = [] := by rw [leavePair, h]; rfl
theorem pair_none {b : List Int} (h : (resolveN a b x).2 = false) : leavePair x a b = [] := by rw [leavePair, h, Bool.and_false]; rfl
theorem pair_yes {b : List Int} (h : hasI b (-x) = true) (h2 : (resolveN a b x).2 = true) : leavePair x a b = [(resolveN a b x).1] := by rw [leavePair, h, h2]; rfl
end
theorem sum_le {K : Nat} {l : List (List Int)} (h : ∀ c ∈ l, c.length ≤ K) : (l.map List.length).sum ≤ K * l.length := by
  induction l with
  | nil => simp
  | cons a r ih =>
    have h1 := h a (by simp)
    have h2 := ih fun c hc => h c (by simp [hc])
    rw [List.map_cons, List.sum_cons, List.length_cons, Nat.mul_succ]
    omega
/-- rows that are short, and not too many -/
def Few (n : Nat) (l : List (List Int)) : Prop := l.length ≤ n ∧ ∀ c ∈ l, c.length ≤ 20
theorem Few.sum {n : Nat} {l : List (List Int)} (h : Few n l) (hn : n ≤ 10000) : (l.map List.length).sum ≤ 200000 := by
  have h1 := sum_le h.2
  have h2 := h.1
  omega
theorem Few.app {n m : Nat} {l r : List (List Int)} (h : Few n l) (k : Few m r) : Few (n + m) (l ++ r) := by
  refine ⟨by rw [List.length_append]; have := h.1; have := k.1; omega, fun c hc => ?_⟩
  rcases List.mem_append.1 hc with hc | hc
  · exact h.2 c hc
  · exact k.2 c hc
theorem Few.mono {n m : Nat} {l : List (List Int)} (h : Few n l) (hm : n ≤ m) : Few m l := ⟨Nat.le_trans h.1 hm, h.2⟩
theorem Few.small {n : Nat} {l : List (List Int)} (h : Few n l) (hn : n ≤ 10000) : SmallII l := ⟨by have := h.1; omega, by have := h.sum hn; omega⟩
section
variable {L x : Int} {cs : List (List Int)} {a : List Int}
theorem keep_few (n : Nat) (h48 : cs.length ≤ 48) (hc : ∀ c ∈ cs, isClause L c = true) : Few 48 (leaveKeep x cs n) := by
  refine ⟨?_, fun c h => ?_⟩
  · have h1 := List.length_filter_le (fun c => !hasI c x && !hasI c (-x)) (cs.take n)
    rw [List.length_take] at h1
    unfold leaveKeep; omega
  · rw [leaveKeep, List.mem_filter] at h
    have hm := List.mem_of_mem_take h.1
    have := (cons_clause (hc c hm)).len (inB_true (clause_in (hc c hm))).2
    omega
theorem pair_few {b : List Int} (hx : 1 ≤ x) (ha : isClause L a = true) (hb : isClause L b = true) (hxa : hasI a x = true) : Few 1 (leavePair x a b) := by
  rw [leavePair]
  split
  · rename_i h
    rw [Bool.and_eq_true] at h
    refine ⟨by simp, fun c hc => ?_⟩
    rw [List.mem_singleton] at hc
    subst hc
    have hcl : clash a b x = true := by rw [clash, hxa, h.1]; rfl
    have h18 := clash_len hx ha hb hcl
    have h2 := h.2
    rw [resolveN, hcl, if_pos rfl, resolve_eq ha hb] at h2 ⊢
    split
    · rw [insUp_len]; omega
    · simp
  · exact ⟨by simp, by simp⟩
theorem row_few (hx : 1 ≤ x) (ha : isClause L a = true) (hc : ∀ c ∈ cs, isClause L c = true) (hxa : hasI a x = true) (n : Nat) (hn : n ≤ cs.length) : Few n (leaveRow x a cs n) := by
  induction n with
  | zero => exact ⟨by simp [leaveRow], by simp [leaveRow]⟩
  | succ n ih =>
    rw [row_succ (by omega)]
    exact (ih (by omega)).app (pair_few hx ha (hc _ (List.getElem_mem _)) hxa)
theorem rows_few (hx : 1 ≤ x) (h48 : cs.length ≤ 48) (hc : ∀ c ∈ cs, isClause L c = true) (n : Nat) (hn : n ≤ cs.length) : Few (48 * n) (leaveRows x cs n) := by
  induction n with
  | zero => exact ⟨by simp [leaveRows], by simp [leaveRows]⟩
  | succ n ih =>
    rw [rows_succ (by omega)]
    refine ((ih (by omega)).app (m := 48) ?_).mono (by omega)
    split
    · rename_i h
      exact (row_few hx (hc _ (List.getElem_mem _)) hc h _ (Nat.le_refl _)).mono h48
    · exact ⟨by simp, by simp⟩
/-- all that can lie there on the way -/
theorem way_few (hx : 1 ≤ x) (h48 : cs.length ≤ 48) (hc : ∀ c ∈ cs, isClause L c = true) (ha : isClause L a = true) (hxa : hasI a x = true) {n m : Nat} (hn : n ≤ cs.length) (hm : m ≤ cs.length) : Few 2400 (leaveKeep x cs cs.length ++ leaveRows x cs n ++ leaveRow x a cs m) := by
  refine (((keep_few cs.length h48 hc).app (rows_few hx h48 hc n hn)).app (row_few hx ha hc hxa m hm)).mono ?_
  omega
theorem all_few (hx : 1 ≤ x) (h48 : cs.length ≤ 48) (hc : ∀ c ∈ cs, isClause L c = true) : Few 2400 (leaveAll x cs) :=
  ((keep_few cs.length h48 hc).app (rows_few hx h48 hc cs.length (Nat.le_refl _))).mono (by omega)
/-- the two ways agree -/
theorem res_clash {b : List Int} (hxa : hasI a x = true) (hb : hasI b (-x) = true) : clash a b x = true := by rw [clash, hxa, hb]; rfl
theorem resS_eq {b : List Int} (ha : isClause L a = true) (hb : isClause L b = true) (hcl : clash a b x = true) : resolveN a b x = if isClause L (resS x a b) then (resS x a b, true) else ([], false) := by
  rw [resolveN, hcl, if_pos rfl, resolve_eq ha hb]; rfl
end
/-! ### How far the two loops have come -/
def leaveMid (x : Int) (cs : List (List Int)) (i : Nat) : List (List Int) := leaveKeep x cs cs.length ++ leaveRows x cs i
def leaveWay (x : Int) (cs : List (List Int)) (i : Nat) (a : List Int) (k : Nat) : List (List Int) := leaveMid x cs i ++ (if hasI a x then leaveRow x a cs k else [])
section
variable {L x : Int} {cs : List (List Int)} {a R : List Int} {i k : Nat}
theorem leaveMid_zero : leaveMid x cs 0 = leaveKeep x cs cs.length := by simp [leaveMid, leaveRows]
theorem leaveMid_all : leaveMid x cs cs.length = leaveAll x cs := rfl
theorem leaveWay_zero : leaveWay x cs i a 0 = leaveMid x cs i := by simp [leaveWay, leaveRow]
theorem mid_no (hi : i < cs.length) (h : hasI cs[i] x = false) : leaveMid x cs (i + 1) = leaveMid x cs i := by rw [leaveMid, rows_no hi h]; rfl
theorem leaveWay_end (hi : i < cs.length) : leaveWay x cs i cs[i] cs.length = leaveMid x cs (i + 1) := by rw [leaveWay, leaveMid, leaveMid, rows_succ hi, List.append_assoc]
theorem leaveWay_noA (h : hasI a x = false) : leaveWay x cs i a (k + 1) = leaveWay x cs i a k := by rw [leaveWay, leaveWay, h]; rfl
theorem leaveWay_noB (hk : k < cs.length) (h : hasI cs[k] (-x) = false) : leaveWay x cs i a (k + 1) = leaveWay x cs i a k := by
  rw [leaveWay, leaveWay, row_succ hk, pair_no h, List.append_nil]
theorem leaveWay_none (hk : k < cs.length) (h : (resolveN a cs[k] x).2 = false) : leaveWay x cs i a (k + 1) = leaveWay x cs i a k := by
  rw [leaveWay, leaveWay, row_succ hk, pair_none h, List.append_nil]
theorem leaveWay_put (hk : k < cs.length) (ha : hasI a x = true) (hb : hasI cs[k] (-x) = true) (h : resolveN a cs[k] x = (R, true)) : leaveWay x cs i a (k + 1) = leaveWay x cs i a k ++ [R] := by
  rw [leaveWay, leaveWay, row_succ hk, pair_yes hb (by rw [h]), h, ha, if_pos rfl, if_pos rfl, List.append_assoc]
theorem leaveWay_few (hx : 1 ≤ x) (h48 : cs.length ≤ 48) (hc : ∀ c ∈ cs, isClause L c = true) (ha : isClause L a = true) (hi : i ≤ cs.length) (hk : k ≤ cs.length) : Few 2400 (leaveWay x cs i a k) := by
  rw [leaveWay, leaveMid]
  split
  · rename_i h
    exact way_few hx h48 hc ha h hi hk
  · rw [List.append_nil]
    exact ((keep_few cs.length h48 hc).app (rows_few hx h48 hc i hi)).mono (by omega)
end
set_option maxHeartbeats 1000000 in
set_option maxRecDepth 100000 in
theorem l05Give_any (w : World) {l h : Nat} (v : Value) (f : FormD) (hv : FormR w l h v f) (hh : h ≤ w.heap.size) :
    Calls Try.prog 95 #[v] w fun e w' => ∃ r, e = .returned (.tuple #[r, .bool (validForm f)]) ∧ (validForm f = true → r = v) ∧ (validForm f = false → r = .agg #[.int .i64 0, .slice none 0 0]) ∧ Below w.heap.size w w' := by
  obtain ⟨u, rfl, hu⟩ := hv.ex
  have kL := hv.rng
  obtain ⟨a0, cap0, V0, e0, _⟩ := hu.out
  subst e0
  obtain ⟨W1, hW1⟩ : ∃ W, W = w.alloc (.cells #[.int .i64 f.letters, .slice a0 f.clauses.length cap0] 29) := ⟨_, rfl⟩
  obtain ⟨W, hW⟩ : ∃ W, W = W1.alloc (.cells #[.int .i64 0, .slice none 0 0] 29) := ⟨_, rfl⟩
  have hs1 : W1.heap.size = w.heap.size + 1 := by rw [hW1]; simp
  have hsW : W.heap.size = w.heap.size + 2 := by rw [hW]; simp [hs1]
  have hB1 : Below w.heap.size w W1 := by rw [hW1]; exact alloc_below _ _
  have hBW : Below w.heap.size w W := by rw [hW]; exact hB1.alloc (by omega) _
  have hbx : TwoC W w.heap.size 29 (.int .i64 f.letters) (.slice a0 f.clauses.length cap0) := by rw [hW]; refine TwoC.alloc ?_ _; rw [hW1]; exact TwoC.new _ _ _ _
  have hbr : TwoC W (w.heap.size + 1) 29 (.int .i64 0) (.slice none 0 0) := by rw [hW, ← hs1]; exact TwoC.new _ _ _ _
  have HU := Lib.hid (hu.below hBW hh)
  have HB := Lib.hid hbx
  have HR := Lib.hid hbr
  clear hbx hu hv hbr hB1
  go_enter Try.func95, Try.ntmps95
  go_wp2_with fail
  rw [← hW1, ← hW]
  clear hW hW1
  refine (l05Is_any W _ _ f HB.out.c0 HB.out.c1 (by omega) kL HU.out (by omega)).mono ?_
  rintro e w2 ⟨rfl, hb2⟩
  have hs2 := hb2.size
  have hbr2 := HR.out.below hb2 HR.out.lt
  have r0 := hbr2.c0
  have r1 := hbr2.c1
  have g0 := hbr2.f0
  have g1 := hbr2.f1
  have hbx2 := HB.out.below hb2 HB.out.lt
  have q0 := hbx2.c0
  have q1 := hbx2.c1
  clear hbr2 hbx2
  cases hval : validForm f
  · go_wp2_with fail
    refine bodyPost_ret (v := .tuple #[.agg #[.int .i64 0, .slice none 0 0], .bool false]) (by simp [results, Try.results95, go_sem, r0, r1]) rfl ⟨_, by rw [hval], (fun h => by rw [hval] at h; cases h), fun _ => rfl, ?_⟩
    exact ((hBW.trans (hb2.mono hBW.size)).setCell (by simp) _).setCell (by simp) _
  · go_wp2_with fail
    refine bodyPost_ret (v := .tuple #[.agg #[.int .i64 f.letters, .slice a0 f.clauses.length cap0], .bool true]) (by simp [results, Try.results95, go_sem, r0, r1]) rfl ⟨_, by rw [hval], fun _ => rfl, (fun h => by rw [hval] at h; cases h), ?_⟩
    exact ((hBW.trans (hb2.mono hBW.size)).setCell (by simp) _).setCell (by simp) _
set_option maxHeartbeats 1000000 in
set_option maxRecDepth 100000 in
theorem checked_any (w : World) {l h : Nat} (v : Value) (f : FormD) (hv : FormR w l h v f) (hh : h ≤ w.heap.size) (hz : SmallII f.clauses) :
    Calls Try.prog 97 #[v] w fun e w' => ∃ r, e = .returned (.tuple #[r, .bool (validForm f)]) ∧ (validForm f = true → r = v) ∧ (validForm f = false → r = .agg #[.int .i64 0, .slice none 0 0]) ∧ Below w.heap.size w w' := by
  obtain ⟨u, rfl, hu⟩ := hv.ex
  have kL := hv.rng
  obtain ⟨a0, cap0, V0, e0, _⟩ := hu.out
  subst e0
  obtain ⟨W1, hW1⟩ : ∃ W, W = w.alloc (.cells #[.int .i64 f.letters, .slice a0 f.clauses.length cap0] 29) := ⟨_, rfl⟩
  obtain ⟨W, hW⟩ : ∃ W, W = W1.alloc (.cells #[.int .i64 0, .slice none 0 0] 29) := ⟨_, rfl⟩
  have hs1 : W1.heap.size = w.heap.size + 1 := by rw [hW1]; simp
  have hsW : W.heap.size = w.heap.size + 2 := by rw [hW]; simp [hs1]
  have hB1 : Below w.heap.size w W1 := by rw [hW1]; exact alloc_below _ _
  have hBW : Below w.heap.size w W := by rw [hW]; exact hB1.alloc (by omega) _
  have hbx : TwoC W w.heap.size 29 (.int .i64 f.letters) (.slice a0 f.clauses.length cap0) := by rw [hW]; refine TwoC.alloc ?_ _; rw [hW1]; exact TwoC.new _ _ _ _
  have hbr : TwoC W (w.heap.size + 1) 29 (.int .i64 0) (.slice none 0 0) := by rw [hW, ← hs1]; exact TwoC.new _ _ _ _
  have HF := Lib.hid (hv.below hBW hh)
  have HB := Lib.hid hbx
  have HR := Lib.hid hbr
  have HZ := Lib.hid hz
  have q0 := hbx.c0
  have q1 := hbx.c1
  clear hu hv hbr hB1 hbx hz
  go_enter Try.func97, Try.ntmps97
  go_wp2_with fail
  rw [← hW1, ← hW]
  clear hW hW1
  go_wp2_with fail
  refine (implValidForm_any W _ _ HF.out (by omega) HZ.out).mono ?_
  rintro e w2 ⟨rfl, hb2⟩
  clear q0 q1
  have hs2 := hb2.size
  have hbr2 := HR.out.below hb2 HR.out.lt
  have r0 := hbr2.c0
  have r1 := hbr2.c1
  have g0 := hbr2.f0
  have g1 := hbr2.f1
  have hbx2 := HB.out.below hb2 HB.out.lt
  have q0 := hbx2.c0
  have q1 := hbx2.c1
  clear hbr2 hbx2
  cases hval : validForm f
  · go_wp2_with fail
    refine bodyPost_ret (v := .tuple #[.agg #[.int .i64 0, .slice none 0 0], .bool false]) (by simp [results, Try.results97, go_sem, r0, r1]) rfl ⟨_, by rw [hval], (fun h => by rw [hval] at h; cases h), fun _ => rfl, ?_⟩
    exact ((hBW.trans (hb2.mono hBW.size)).setCell (by simp) _).setCell (by simp) _
  · go_wp2_with fail
    refine bodyPost_ret (v := .tuple #[.agg #[.int .i64 f.letters, .slice a0 f.clauses.length cap0], .bool true]) (by simp [results, Try.results97, go_sem, r0, r1]) rfl ⟨_, by rw [hval], fun _ => rfl, (fun h => by rw [hval] at h; cases h), ?_⟩
    exact ((hBW.trans (hb2.mono hBW.size)).setCell (by simp) _).setCell (by simp) _
end Go.Proofs.Ytdeelgnfnhdklaa
