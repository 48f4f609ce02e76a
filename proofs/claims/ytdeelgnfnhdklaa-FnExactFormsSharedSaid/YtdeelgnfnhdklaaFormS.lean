/-
  How slices of forms read in memory, and contracts of the functions of the laws that copy, compare, measure and mark them.
-/
import Derived.Test.YtdeelgnfnhdklaaForm
import Derived.StillTailTactics
namespace Go.Proofs.Ytdeelgnfnhdklaa
open Go.RowKit
set_option linter.unusedVariables false

theorem info_form : (Try.prog.info? 29).map (fun i => (i.zero, i.size, i.bytes)) = some (some (.agg #[.int .i64 0, .slice none 0 0]), 2, 32) := by kernel_rfl
def formCell (fs : List FormD) (V : Nat → Value) (i : Nat) : Value := if i % 2 = 0 then .int .i64 (fs.getD (i / 2) ⟨0, []⟩).letters else V (i / 2)
structure Forms (w : World) (lo hi : Nat) (v : Value) (fs : List FormD) : Prop where
  ex : ∃ V : Nat → Value, Sl w lo hi 2 fs.length v (formCell fs V) ∧ ∀ i (h : i < fs.length), Intss w lo hi (V i) fs[i].clauses
  rng : ∀ f ∈ fs, I64 f.letters
def SmallFS (fs : List FormD) : Prop := fs.length ≤ 1048576 ∧ ∀ f ∈ fs, SmallII f.clauses
section
variable {w w' : World} {lo hi : Nat} {v : Value} {fs : List FormD}
theorem Forms.out (h : Forms w lo hi v fs) : ∃ a cap, ∃ V : Nat → Value, v = .slice a fs.length cap ∧ fs.length ≤ cap ∧ cap ≤ 9223372036854775807 ∧ (∀ i (h : i < fs.length), Intss w lo hi (V i) fs[i].clauses) ∧
    (fs = [] ∨ ∃ b off, a = some ⟨b, off, none⟩ ∧ lo ≤ b ∧ b < hi ∧ hi ≤ w.heap.size ∧ ∀ i (hi : i < fs.length), w.cell? ⟨b, off + i * 2, none⟩ = some (.int .i64 fs[i].letters) ∧ w.cell? ⟨b, off + i * 2 + 1, none⟩ = some (V i)) := by
  obtain ⟨V, hs, hV⟩ := h.ex
  obtain ⟨a, cap, e, h1, h2, h3⟩ := hs.out
  refine ⟨a, cap, V, e, h1, h2, hV, ?_⟩
  rcases h3 with h3 | ⟨b, off, r1, r2, r3, r4, r5⟩
  · exact .inl (List.eq_nil_of_length_eq_zero h3)
  · refine .inr ⟨b, off, r1, r2, r3, r4, fun i hi => ?_⟩
    have e0 := r5 (i * 2) (by omega)
    have e1 := r5 (i * 2 + 1) (by omega)
    simp only [formCell, show i * 2 / 2 = i by omega, show i * 2 % 2 = 0 by omega, show (i * 2 + 1) / 2 = i by omega, show (i * 2 + 1) % 2 = 1 by omega, if_true, ← Nat.add_assoc, List.getD_eq_getElem?_getD, List.getElem?_eq_getElem hi, Option.getD_some] at e0 e1
    exact ⟨e0, e1⟩
theorem Forms.below {B : Nat} (h : Forms w lo hi v fs) (hb : Below B w w') (hB : hi ≤ B) : Forms w' lo hi v fs := by obtain ⟨V, hs, hV⟩ := h.ex; exact ⟨⟨V, hs.below hb hB, fun i hi => (hV i hi).below hb hB⟩, h.rng⟩
theorem Forms.same {l h' : Nat} (h : Forms w lo hi v fs) (hb : Same l h' w w') (hB : hi ≤ l ∨ h' ≤ lo) : Forms w' lo hi v fs := by obtain ⟨V, hs, hV⟩ := h.ex; exact ⟨⟨V, hs.same hb hB, fun i hi => (hV i hi).same hb hB⟩, h.rng⟩
theorem Forms.drew (h : Forms w lo hi v fs) (hd : Drew w w') : Forms w' lo hi v fs := by obtain ⟨V, hs, hV⟩ := h.ex; exact ⟨⟨V, hs.drew hd, fun i hi => (hV i hi).drew hd⟩, h.rng⟩
theorem Forms.mono {lo' hi' : Nat} (h : Forms w lo hi v fs) (hl : lo' ≤ lo) (hh : hi ≤ hi') (hw : hi' ≤ w.heap.size) : Forms w lo' hi' v fs := by obtain ⟨V, hs, hV⟩ := h.ex; exact ⟨⟨V, hs.mono hl hh hw, fun i hi => (hV i hi).mono hl hh hw⟩, h.rng⟩
theorem Forms.nil (w : World) (lo hi : Nat) : Forms w lo hi (.slice none 0 0) [] := ⟨⟨fun _ => undef, Sl.nil _ _ _ _ _, fun i h => by simp at h⟩, by simp⟩
end
/-! ### in memory of the call's own: the forms' clauses lie one behind the other -/
structure OwnFS (w : World) (lo hi : Nat) (v : Value) (fs : List FormD) : Prop where
  ex : ∃ g cap, ∃ (L : List Value) (m : Nat → Nat), v = .slice (some ⟨g, 0, none⟩) fs.length cap ∧ fs.length ≤ cap ∧ cap ≤ 9223372036854775807 ∧ Row w lo 29 2 g fs.length cap L ∧ g < m 0 ∧ (∀ i, i < fs.length → m i ≤ m (i + 1)) ∧ m fs.length ≤ hi ∧
    ∀ i (h : i < fs.length), L.getD (i * 2) undef = .int .i64 fs[i].letters ∧ OwnII w (m i) (m (i + 1)) (L.getD (i * 2 + 1) undef) fs[i].clauses
  rng : ∀ f ∈ fs, I64 f.letters
  hsz : hi ≤ w.heap.size
theorem mono_of_step {m : Nat → Nat} {n : Nat} (h : ∀ i, i < n → m i ≤ m (i + 1)) {i j : Nat} (hij : i ≤ j) (hj : j ≤ n) : m i ≤ m j := by
  induction j with
  | zero => have : i = 0 := by omega
            rw [this]; exact Nat.le_refl _
  | succ j ih =>
    by_cases e : i = j + 1
    · rw [e]; exact Nat.le_refl _
    · exact Nat.le_trans (ih (by omega) (by omega)) (h j (by omega))
section
variable {w w' : World} {lo hi : Nat} {v : Value} {fs : List FormD}
theorem OwnFS.rd (h : OwnFS w lo hi v fs) : Forms w lo hi v fs := by
  obtain ⟨g, cap, L, m, rfl, hc1, hc2, hrow, hg, hm, hmh, hL⟩ := h.ex
  have hhz := h.hsz
  have hge := hrow.ge
  have hll := hrow.length
  refine ⟨⟨fun i => L.getD (i * 2 + 1) undef, ⟨some ⟨g, 0, none⟩, cap, rfl, hc1, hc2, ?_⟩, fun i hi => ?_⟩, h.rng⟩
  · by_cases h0 : fs.length = 0
    · exact .inl h0
    · have h1 := mono_of_step hm (Nat.zero_le _) (Nat.le_refl fs.length)
      refine .inr ⟨g, 0, rfl, hge, by omega, hhz, fun i hi => ?_⟩
      rw [Nat.zero_add, hrow.cellAt hi]
      unfold formCell
      have h2 := hL (i / 2) (by omega)
      split
      · rename_i he
        rw [show i / 2 * 2 = i by omega] at h2
        rw [h2.1]; simp [List.getD, show i / 2 < fs.length by omega]
      · rename_i he
        show some (L.getD i undef) = some (L.getD (i / 2 * 2 + 1) undef)
        rw [show i / 2 * 2 + 1 = i by omega]
  · have h1 := mono_of_step hm (Nat.zero_le i) (Nat.le_of_lt hi)
    have h2 := mono_of_step hm (show i + 1 ≤ fs.length from hi) (Nat.le_refl _)
    exact (hL i hi).2.rd.mono (by omega) (by omega) hhz
theorem OwnFS.below {B : Nat} (h : OwnFS w lo hi v fs) (hb : Below B w w') (hB : hi ≤ B) : OwnFS w' lo hi v fs := by
  obtain ⟨g, cap, L, m, e, hc1, hc2, hrow, hg, hm, hmh, hL⟩ := h.ex
  have h0 := mono_of_step hm (Nat.zero_le _) (Nat.le_refl fs.length)
  refine ⟨⟨g, cap, L, m, e, hc1, hc2, hrow.below hb (by omega), hg, hm, hmh, fun i hi => ?_⟩, h.rng, Nat.le_trans h.hsz hb.size⟩
  have h2 := mono_of_step hm (show i + 1 ≤ fs.length from hi) (Nat.le_refl _)
  exact ⟨(hL i hi).1, (hL i hi).2.below hb (by omega)⟩
theorem OwnFS.same {l h' : Nat} (h : OwnFS w lo hi v fs) (hb : Same l h' w w') (hB : hi ≤ l ∨ h' ≤ lo) : OwnFS w' lo hi v fs := by
  obtain ⟨g, cap, L, m, e, hc1, hc2, hrow, hg, hm, hmh, hL⟩ := h.ex
  have h0 := mono_of_step hm (Nat.zero_le _) (Nat.le_refl fs.length)
  have hge := hrow.ge
  refine ⟨⟨g, cap, L, m, e, hc1, hc2, hrow.keep (hb.block g hrow.lt (by omega)), hg, hm, hmh, fun i hi => ?_⟩, h.rng, Nat.le_trans h.hsz hb.size⟩
  have h1 := mono_of_step hm (Nat.zero_le i) (Nat.le_of_lt hi)
  have h2 := mono_of_step hm (show i + 1 ≤ fs.length from hi) (Nat.le_refl _)
  exact ⟨(hL i hi).1, (hL i hi).2.same hb (by omega)⟩
theorem OwnFS.drew (h : OwnFS w lo hi v fs) (hd : Drew w w') : OwnFS w' lo hi v fs := by
  obtain ⟨g, cap, L, m, e, hc1, hc2, hrow, hg, hm, hmh, hL⟩ := h.ex
  exact ⟨⟨g, cap, L, m, e, hc1, hc2, hrow.drew hd, hg, hm, hmh, fun i hi => ⟨(hL i hi).1, (hL i hi).2.drew hd⟩⟩, h.rng, by rw [hd.heap]; exact h.hsz⟩
end
def cutAt (m : Nat → Nat) (k z j : Nat) : Nat := if j ≤ k then m j else z
theorem cut_le {m : Nat → Nat} {k z j : Nat} (h : j ≤ k) : cutAt m k z j = m j := by rw [cutAt, if_pos h]
theorem cut_gt {m : Nat → Nat} {k z j : Nat} (h : k < j) : cutAt m k z j = z := by rw [cutAt, if_neg (by omega)]
set_option maxHeartbeats 800000 in
set_option maxRecDepth 100000 in
theorem szFormS_any {l h : Nat} (v : Value) (fs : List FormD) (left : Int) (w : World) (hv : Forms w l h v fs) (hh : h ≤ w.heap.size) (h1 : 0 ≤ left) (h2 : left ≤ 1048576) :
    Calls Try.prog 44 #[v, .int .i64 left] w fun e w' => ∃ n : Int, e = .returned (.int .i64 n) ∧ Below w.heap.size w w' ∧ n ≤ left ∧ -1 ≤ n ∧ (0 ≤ n → SmallFS fs) := by
  obtain ⟨a, cap, V, rfl, hc1, hc2, hV, hd⟩ := hv.out
  have HV := Lib.hid hV
  have HR := Lib.hid hv.rng
  clear hV hv
  by_cases hlt0 : left - fs.length < 0
  · go_enter Try.func44, Try.ntmps44
    go_wp2
    go_ret
    exact ⟨_, rfl, Below.refl _ _, by omega, by omega, by omega⟩
  · go_enter Try.func44, Try.ntmps44
    go_wp2_with fail
    go_loopw [1, 5] (fun q i wr => ∃ (k : Nat) (t : Int), k ≤ fs.length ∧ i = .int .i64 k ∧ q = .int .i64 t ∧ 0 ≤ t ∧ t ≤ left ∧ Hid (∀ f ∈ fs.take k, SmallII f.clauses) ∧ Below w.heap.size w wr) (fun _ i _ => fs.length - (intOf i).toNat)
    case atStart => exact ⟨0, _, Nat.zero_le _, rfl, rfl, by omega, by omega, Lib.hid (by simp), Below.refl _ _⟩
    case round =>
      obtain ⟨k, t, hk, rfl, rfl, ht0, ht1, H, hb⟩ := hrel
      have hs := hb.size
      by_cases hlt : k < fs.length
      · rcases hd with rfl | ⟨b, off, rfl, hb1, hb2, hb3, hcell⟩
        · simp at hlt
        obtain ⟨c0, c1⟩ := hcell k hlt
        rw [← hb.cell (p := ⟨b, off + k * 2, none⟩) (show b < w.heap.size by omega)] at c0
        rw [← hb.cell (p := ⟨b, off + k * 2 + 1, none⟩) (show b < w.heap.size by omega)] at c1
        have hx : FormR wr l h (.agg #[.int .i64 fs[k].letters, V k]) fs[k] := ⟨⟨_, rfl, (HV.out k hlt).below hb hh⟩, HR.out _ (List.getElem_mem hlt)⟩
        have HT : Hid (fs.take (k + 1) = fs.take k ++ [fs[k]]) := List.take_succ_eq_append_getElem hlt
        have HSZ := Lib.hid (szForm_any _ fs[k] t wr hx (by omega) ht0 (by omega))
        clear hcell hx
        go_wp2_with fail
        refine HSZ.out.mono ?_
        rintro e w' ⟨n, rfl, hb', n1, n2, n3⟩
        have hbb := hb.trans (hb'.mono hs)
        by_cases hn : n < 0
        · go_wp2
          go_ret
          exact ⟨_, rfl, hbb, by omega, by omega, by omega⟩
        · have HN := Lib.hid (n3 (by omega))
          clear n3 c0 c1 hb'
          go_wp2
          go_roundw
          case rel =>
            refine ⟨k + 1, n, by omega, by go_num, rfl, by omega, by omega, Lib.hid fun f hf => ?_, hbb⟩
            rw [HT.out] at hf
            rcases List.mem_append.1 hf with hf | hf
            · exact H.out f hf
            · rw [List.mem_singleton] at hf; rw [hf]; exact HN.out
          case measure => simp [intOf]; omega
      · obtain rfl : k = fs.length := by omega
        go_wp2
        go_ret
        refine ⟨_, rfl, hb, by omega, by omega, fun _ => ⟨by omega, ?_⟩⟩
        have := H.out
        rwa [List.take_length] at this
set_option maxHeartbeats 1600000 in
set_option maxRecDepth 100000 in
theorem toFormS_any {l h : Nat} (v : Value) (fs : List FormD) (w : World) (hv : Forms w l h v fs) (hz : SmallFS fs) (hh : h ≤ w.heap.size) :
    Calls Try.prog 46 #[v] w fun e w' => ∃ u, e = .returned u ∧ OwnFS w' w.heap.size w'.heap.size u fs ∧ Below w.heap.size w w' := by
  obtain ⟨a, cap, V, rfl, hc1, hc2, hV, hd⟩ := hv.out
  obtain ⟨i0, hi, hz0, hz1, hz2⟩ := info_parts info_form
  have hz3 := hz.1
  have hml : fs.length ≤ maxLen := by unfold maxLen; omega
  have HV := Lib.hid hV
  have HR := Lib.hid hv.rng
  have HZ := Lib.hid hz
  clear hV hz hv
  go_enter Try.func46, Try.ntmps46
  go_wp2_with (refine wpList_make_full _ rfl _ _ 57 rfl w.heap.size 29 i0 (.agg #[.int .i64 0, .slice none 0 0]) 2 Try.underlying57 hi hz0 hz1 .i64 .i64 _ _ fs.length rfl rfl rfl rfl ?c1 hml ?c2 ?_)
  case c1 => rw [hz2]; omega
  case c2 => exact Nat.le_refl _
  intro w1 hown hg
  have hrow : Row w1 w.heap.size 29 2 w.heap.size fs.length fs.length _ := ⟨hown⟩
  have hb0 : Below w.heap.size w w1 := (Below.refl _ _).grown hg (Nat.le_refl _) (fun k hk => by cases hk)
  clear hown hg
  go_wp2_with fail
  go_loopw [4] (fun i wr => ∃ (k : Nat) (L : List Value) (m : Nat → Nat), k ≤ fs.length ∧ i = .int .i64 k ∧ Row wr w.heap.size 29 2 w.heap.size fs.length fs.length L ∧ Hid (w.heap.size < m 0 ∧ (∀ i, i < k → m i ≤ m (i + 1)) ∧ m k ≤ wr.heap.size ∧
      ∀ i (h : i < fs.length), i < k → L.getD (i * 2) undef = .int .i64 fs[i].letters ∧ OwnII wr (m i) (m (i + 1)) (L.getD (i * 2 + 1) undef) fs[i].clauses) ∧ Below w.heap.size w wr) (fun i _ => fs.length - (intOf i).toNat)
  case atStart => exact ⟨0, _, fun _ => w.heap.size + 1, Nat.zero_le _, rfl, hrow, ⟨Nat.lt_succ_self _, fun i hi => by omega, hrow.lt, fun i _ hi => by omega⟩, hb0⟩
  case round =>
    obtain ⟨k, L, m, hk, rfl, hown, HM, hb⟩ := hrel
    have hs := hb.size
    clear hrow hb0
    by_cases hlt : k < fs.length
    · rcases hd with rfl | ⟨b, off, rfl, hb1, hb2, hb3, hcell⟩
      · simp at hlt
      obtain ⟨c0, c1⟩ := hcell k hlt
      rw [← hb.cell (p := ⟨b, off + k * 2, none⟩) (show b < w.heap.size by omega)] at c0
      rw [← hb.cell (p := ⟨b, off + k * 2 + 1, none⟩) (show b < w.heap.size by omega)] at c1
      have hx : FormR wr l h (.agg #[.int .i64 fs[k].letters, V k]) fs[k] := ⟨⟨_, rfl, (HV.out k hlt).below hb hh⟩, HR.out _ (List.getElem_mem hlt)⟩
      have HTO := Lib.hid (toForm_any _ fs[k] wr hx (HZ.out.2 _ (List.getElem_mem hlt)) (by omega))
      clear hcell hx
      go_wp2_with fail
      refine HTO.out.mono ?_
      rintro e w2 ⟨u2, rfl, hf2, hb2'⟩
      obtain ⟨cl, hue, hcl⟩ := hf2.ex
      subst hue
      obtain ⟨ca, cc, hce⟩ : ∃ a c, cl = .slice a fs[k].clauses.length c := by obtain ⟨a, c, _, e, _⟩ := hcl.rd.out; exact ⟨a, c, e⟩
      subst hce
      have hown2 := hown.below hb2' hown.lt
      have hbb := hb.trans (hb2'.mono hs)
      have hs2 := hb2'.size
      have d0 := hown2.cellAt (k := k * 2) (by omega)
      have d1 := hown2.cellAt (k := k * 2 + 1) (by omega)
      have f0 := hown2.frozen (k * 2)
      have f1 := hown2.frozen (k * 2 + 1)
      have HC := Lib.hid hcl
      have HB2 := Lib.hid hb2'
      have hgl := hown.lt
      clear hcl hf2 hb2' c0 c1
      go_wp2_with fail
      go_roundw
      case rel =>
        obtain ⟨m0, m1, m2, m3⟩ := HM.out
        have hlen := hown.length
        have hsame : Same w.heap.size (w.heap.size + 1) w2 ((w2.setCell ⟨w.heap.size, k * 2, none⟩ (.int .i64 fs[k].letters)).setCell ⟨w.heap.size, k * 2 + 1, none⟩ (.slice ca fs[k].clauses.length cc)) :=
          ((Same.refl _ _ _).setCell (p := ⟨w.heap.size, k * 2, none⟩) (Nat.le_refl _) (Nat.lt_succ_self _) _).setCell (p := ⟨w.heap.size, k * 2 + 1, none⟩) (Nat.le_refl _) (Nat.lt_succ_self _) _
        have hm0k := mono_of_step m1 (Nat.zero_le _) (Nat.le_refl k)
        refine ⟨k + 1, _, cutAt m k w2.heap.size, by omega, by go_num, (hown2.stored (k * 2) _).stored (k * 2 + 1) _, ⟨by rw [cut_le (Nat.zero_le _)]; exact m0, fun i hi => ?_, ?_, fun i h' hi => ?_⟩, (hbb.setCell (Nat.le_refl _) _).setCell (Nat.le_refl _) _⟩
        · by_cases e : i = k
          · subst e; rw [cut_le (Nat.le_refl _), cut_gt (by omega)]; omega
          · rw [cut_le (by omega), cut_le (by omega)]; exact m1 i (by omega)
        · rw [cut_gt (by omega)]; exact hsame.size
        · by_cases e : i = k
          · subst e
            rw [cut_le (Nat.le_refl _), cut_gt (by omega)]
            refine ⟨?_, ?_⟩
            · simp [List.getD, hlen, show i * 2 < fs.length * 2 by omega]
            · have e1 : ((L.set (i * 2) (.int .i64 fs[i].letters)).set (i * 2 + 1) (.slice ca fs[i].clauses.length cc)).getD (i * 2 + 1) undef = .slice ca fs[i].clauses.length cc := by
                simp [List.getD, hlen, show i * 2 + 1 < fs.length * 2 by omega]
              rw [e1]
              exact ((HC.out.mono (lo' := m i) (hi' := w2.heap.size) (by omega) (Nat.le_refl _) (Nat.le_refl _)).same hsame (.inr (by omega)))
          · rw [cut_le (by omega), cut_le (by omega)]
            have h3 := m3 i h' (by omega)
            have hmi := mono_of_step m1 (Nat.zero_le i) (by omega : i ≤ k)
            have hmi2 := mono_of_step m1 (by omega : i + 1 ≤ k) (Nat.le_refl k)
            refine ⟨?_, ?_⟩
            · rw [← h3.1]
              simp only [List.getD, List.getElem?_set_ne (show k * 2 + 1 ≠ i * 2 by omega), List.getElem?_set_ne (show k * 2 ≠ i * 2 by omega)]
            · have e1 : ((L.set (k * 2) (.int .i64 fs[k].letters)).set (k * 2 + 1) (.slice ca fs[k].clauses.length cc)).getD (i * 2 + 1) undef = L.getD (i * 2 + 1) undef := by
                simp only [List.getD, List.getElem?_set_ne (show k * 2 + 1 ≠ i * 2 + 1 by omega), List.getElem?_set_ne (show k * 2 ≠ i * 2 + 1 by omega)]
              rw [e1]
              exact (h3.2.below HB2.out (by omega)).same hsame (.inr (by omega))
      case measure => simp [intOf]; omega
    · obtain rfl : k = fs.length := by omega
      go_wp2
      go_ret
      obtain ⟨m0, m1, m2, m3⟩ := HM.out
      exact ⟨_, rfl, ⟨⟨_, _, L, m, rfl, Nat.le_refl _, by omega, hown, m0, m1, m2, fun i h' => m3 i h' h'⟩, HR.out, Nat.le_refl _⟩, hb⟩
set_option maxHeartbeats 800000 in
set_option maxRecDepth 100000 in
theorem eqFormS_any {l h l' h' : Nat} (v u : Value) (xs ys : List FormD) (w : World) (hv : Forms w l h v xs) (hu : Forms w l' h' u ys) (hh : h ≤ w.heap.size) (hh' : h' ≤ w.heap.size) :
    Calls Try.prog 48 #[v, u] w fun e w' => e = .returned (.bool (decide (xs = ys))) ∧ Below w.heap.size w w' := by
  obtain ⟨a, cap, V, rfl, hc1, hc2, hV, hd⟩ := hv.out
  obtain ⟨a', cap', U, rfl, gc1, gc2, hU, gd⟩ := hu.out
  have HV := Lib.hid hV
  have HU := Lib.hid hU
  have HRV := Lib.hid hv.rng
  have HRU := Lib.hid hu.rng
  clear hV hU hv hu
  by_cases hlen : xs.length = ys.length
  · have hne : ((xs.length : Int) != (ys.length : Int)) = false := by simp [hlen]
    have Hl := Lib.hid hlen
    clear hlen
    go_enter Try.func48, Try.ntmps48
    go_wp2_with fail
    go_loopw [5] (fun i wr => ∃ k : Nat, k ≤ xs.length ∧ i = .int .i64 k ∧ Hid (xs = ys ↔ xs.drop k = ys.drop k) ∧ Below w.heap.size w wr) (fun i _ => xs.length - (intOf i).toNat)
    case atStart => exact ⟨0, Nat.zero_le _, rfl, Lib.hid (by simp), Below.refl _ _⟩
    case round =>
      obtain ⟨k, hk, rfl, H, hb⟩ := hrel
      have hs := hb.size
      by_cases hlt : k < xs.length
      · have glt : k < ys.length := by rw [← Hl.out]; exact hlt
        have HD := Lib.hid (drop_cons xs k hlt)
        have GD := Lib.hid (drop_cons ys k glt)
        rcases hd with rfl | ⟨b, off, rfl, hb1, hb2, hb3, hcell⟩
        · simp at hlt
        rcases gd with rfl | ⟨b', off', rfl, gb1, gb2, gb3, gcell⟩
        · simp at glt
        obtain ⟨c0, c1⟩ := hcell k hlt
        obtain ⟨d0, d1⟩ := gcell k glt
        rw [← hb.cell (p := ⟨b, off + k * 2, none⟩) (show b < w.heap.size by omega)] at c0
        rw [← hb.cell (p := ⟨b, off + k * 2 + 1, none⟩) (show b < w.heap.size by omega)] at c1
        rw [← hb.cell (p := ⟨b', off' + k * 2, none⟩) (show b' < w.heap.size by omega)] at d0
        rw [← hb.cell (p := ⟨b', off' + k * 2 + 1, none⟩) (show b' < w.heap.size by omega)] at d1
        have hD1 : Drew wr wr.drew := ⟨1, rfl⟩
        have hx : FormR wr.drew l h (.agg #[.int .i64 xs[k].letters, V k]) xs[k] := ⟨⟨_, rfl, ((HV.out k hlt).below hb hh).drew hD1⟩, HRV.out _ (List.getElem_mem hlt)⟩
        have hy : FormR wr.drew l' h' (.agg #[.int .i64 ys[k].letters, U k]) ys[k] := ⟨⟨_, rfl, ((HU.out k glt).below hb hh').drew hD1⟩, HRU.out _ (List.getElem_mem glt)⟩
        have HEQ := Lib.hid (eqForm_any _ _ xs[k] ys[k] wr.drew hx hy (by rw [hD1.heap]; omega) (by rw [hD1.heap]; omega))
        clear hcell gcell hx hy
        go_wp2_with fail
        go_still_tail 8, (by kernel_rfl)
        go_wp2_with fail
        refine HEQ.out.mono ?_
        rintro e w2 ⟨rfl, hb2'⟩
        have hbb : Below w.heap.size w w2 := hb.trans ((hD1.below _).trans (hb2'.mono hs))
        clear c0 c1 d0 d1
        cases hq : decide (xs[k] = ys[k])
        · go_wp2
          go_ret
          exact ⟨ret_bool (decide_eq_false (by rw [H.out, HD.out, GD.out, List.cons.injEq]; simp at hq; simp [hq])).symm, hbb⟩
        · go_wp2
          go_roundw
          case rel => exact ⟨k + 1, by omega, by go_num, Lib.hid (by rw [H.out, HD.out, GD.out, List.cons.injEq]; simp at hq; simp [hq]), hbb⟩
          case measure => simp [intOf]; omega
      · go_wp2
        go_ret
        exact ⟨ret_bool (decide_eq_true (by rw [H.out, drop_len _ _ (by omega), drop_len _ _ (by rw [← Hl.out]; omega)])).symm, hb⟩
  · have hne : ((xs.length : Int) != (ys.length : Int)) = true := by simp; omega
    have hxy : xs ≠ ys := fun e => hlen (by rw [e])
    go_enter Try.func48, Try.ntmps48
    go_wp2
    go_ret
    exact ⟨ret_bool (by simp [hxy]), Below.refl _ _⟩
set_option maxHeartbeats 800000 in
set_option maxRecDepth 100000 in
theorem markFormS_any {lo hi : Nat} (v : Value) (fs : List FormD) (k : Int) (w : World) (hv : OwnFS w lo hi v fs) (h0 : 0 ≤ k) (h1 : k ≤ 1000) (hz : SmallFS fs) :
    Calls Try.prog 49 #[v, .int .i64 k] w fun e w' => ∃ n : Int, e = .returned (.int .i64 n) ∧ 0 ≤ n ∧ Same lo hi w w' := by
  obtain ⟨g, cap, L, m, rfl, hc1, hc2, hrow, hg, hm, hmh, hL⟩ := hv.ex
  have hsz := hv.hsz
  have hz1 := hz.1
  have HZ := Lib.hid hz
  have hge := hrow.ge
  have hll := hrow.length
  have HL := Lib.hid hL
  have HM := Lib.hid hm
  have hgh : g < hi := by have := mono_of_step hm (Nat.zero_le _) (Nat.le_refl fs.length); omega
  clear hL hm hz hv
  go_enter Try.func49, Try.ntmps49
  go_wp2_with fail
  go_loopw [1, 5] (fun q i wr => ∃ (j : Nat) (t : Int) (L' : List Value), j ≤ fs.length ∧ i = .int .i64 j ∧ q = .int .i64 t ∧ 0 ≤ t ∧ t ≤ 1000 + 1048577 * (j : Int) ∧ Row wr lo 29 2 g fs.length cap L' ∧ Hid (∀ i, j ≤ i → i < fs.length → L'.getD (i * 2 + 1) undef = L.getD (i * 2 + 1) undef) ∧ Hid (∀ i (h : i < fs.length), j ≤ i → OwnII wr (m i) (m (i + 1)) (L.getD (i * 2 + 1) undef) fs[i].clauses) ∧ Same lo hi w wr) (fun _ i _ => fs.length - (intOf i).toNat)
  case atStart => exact ⟨0, k, L, Nat.zero_le _, rfl, rfl, h0, by omega, hrow, fun i _ _ => rfl, fun i h' _ => (HL.out i h').2, Same.refl _ _ _⟩
  case round =>
    clear hrow
    obtain ⟨j, t, L', hj, rfl, rfl, ht0, ht1, hrow, HE, HO, hs⟩ := hrel
    have hss := hs.size
    by_cases hlt : j < fs.length
    · have hsm := HZ.out.2 _ (List.getElem_mem hlt)
      have hmj0 := mono_of_step HM.out (Nat.zero_le j) (Nat.le_of_lt hlt)
      have hmj1 := mono_of_step HM.out (show j + 1 ≤ fs.length from hlt) (Nat.le_refl _)
      have hmj := HM.out j hlt
      have hll' := hrow.length
      have d0 := hrow.cellAt (k := j * 2) (by omega)
      have f0 := hrow.frozen (j * 2)
      obtain ⟨ca, cc, hcj⟩ : ∃ ca cc, L.getD (j * 2 + 1) undef = .slice ca fs[j].clauses.length cc := by
        obtain ⟨ca, cc, _, e, _⟩ := (HO.out j hlt (Nat.le_refl _)).rd.out
        exact ⟨ca, cc, e⟩
      have hrow2 := hrow.stored (j * 2) (.int .i64 t)
      have d1 := hrow2.cellAt (k := j * 2 + 1) (by omega)
      have e1 : (L'.set (j * 2) (.int .i64 t)).getD (j * 2 + 1) undef = .slice ca fs[j].clauses.length cc := by
        rw [← hcj, ← HE.out j (Nat.le_refl _) hlt]
        simp only [List.getD, List.getElem?_set_ne (show j * 2 ≠ j * 2 + 1 by omega)]
      rw [e1] at d1
      have hs1 : Same g (g + 1) wr (wr.setCell ⟨g, j * 2, none⟩ (.int .i64 t)) := (Same.refl _ _ _).setCell (p := ⟨g, j * 2, none⟩) (Nat.le_refl _) (Nat.lt_succ_self _) _
      have hoj := (HO.out j hlt (Nat.le_refl _)).same hs1 (.inr (by omega))
      rw [hcj] at hoj
      have hsum := hsm.2
      have HMK := Lib.hid (markInt64SS_any _ fs[j].clauses (t + 1) _ hoj (by omega) (by omega))
      have HS1 := Lib.hid hs1
      have HR2 := Lib.hid hrow2
      have HO2 : Hid (∀ i (h : i < fs.length), j + 1 ≤ i → OwnII (wr.setCell ⟨g, j * 2, none⟩ (.int .i64 t)) (m i) (m (i + 1)) (L.getD (i * 2 + 1) undef) fs[i].clauses) := fun i h' hi => (HO.out i h' (by omega)).same hs1 (.inr (by have := mono_of_step HM.out (Nat.zero_le i) (Nat.le_of_lt h'); omega))
      clear hcj e1 hs1 hoj hrow2 hsm
      go_wp2_with fail
      refine HMK.out.mono ?_
      rintro e w2 ⟨rfl, _, hs2⟩
      have hsum1 : (0 : Int) ≤ ((fs[j].clauses.map List.length).sum : Int) := by omega
      go_wp2_with fail
      go_roundw
      case rel =>
        refine ⟨j + 1, _, L'.set (j * 2) (.int .i64 t), by omega, by go_num, rfl, by omega, by omega, HR2.out.keep (hs2.block g (by have := HS1.out.size; have := hrow.lt; omega) (by omega)), fun i hi hil => ?_, fun i h' hi => ?_, hs.trans ((HS1.out.mono hge (by omega)).trans (hs2.mono (by omega) (by omega)))⟩
        · rw [← HE.out i (by omega) hil]
          simp only [List.getD, List.getElem?_set_ne (show j * 2 ≠ i * 2 + 1 by omega)]
        · have hi1 := mono_of_step HM.out (show j + 1 ≤ i from hi) (Nat.le_of_lt h')
          exact (HO2.out i h' hi).same hs2 (.inr hi1)
      case measure => simp [intOf]; omega
    · obtain rfl : j = fs.length := by omega
      go_wp2
      go_ret
      exact ⟨_, rfl, ht0, hs⟩
end Go.Proofs.Ytdeelgnfnhdklaa
