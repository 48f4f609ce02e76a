/-
  CoreOf: contracts in the reference.
-/
import Derived.Test.YtdeelgnfnhdklaaCore
import Derived.Test.YtdeelgnfnhdklaaFirst
import Derived.Test.YtdeelgnfnhdklaaTri
namespace Go.Proofs.Ytdeelgnfnhdklaa
open Go.RowKit
set_option linter.unusedVariables false

theorem RefII.beside {w w' : World} {B lo : Nat} {v : Value} {zss : List (List Int)} (h : RefII w B lo v zss) (hs : w.heap.size ≤ w'.heap.size) (hb : Below lo w w') (hk : ∀ k, v.ownBlock = some k → w'.heap[k]? = w.heap[k]?) : RefII w' B lo v zss := by
  obtain ⟨vs, h1, h2, h3⟩ := h.ex
  exact ⟨⟨vs, h1, (h2.stay hs hk).mono (Nat.le_refl _) hs (Nat.le_refl _), fun i hi => (h3 i hi).below hb h.hB⟩, h.hB, by have := h.hlo; omega⟩
theorem RefII.blk {w : World} {B lo : Nat} {v : Value} {zss : List (List Int)} (h : RefII w B lo v zss) : ∀ k, v.ownBlock = some k → lo ≤ k ∧ k < w.heap.size := by
  obtain ⟨vs, h1, h2, h3⟩ := h.ex
  exact fun k hk => ⟨(h2.row.lt k hk).1, h2.blk k hk⟩
theorem step_appRefK {w W : World} {ops : Array Oper} {o : Oper} {a : Act} {K : Act → World → Prop} {Q : Exit → Act → World → Prop} {E : Prop} (hgd : o.guard = none) (s x : Operand)
    (ho : o.op = .call { callee := .builtin .append, args := #[s, x], argTypes := #[22, 22] })
    {B lo : Nat} (v : Value) (zss : List (List Int)) (hs : a.eval s = v) (hv : RefII w B lo v zss) (u : Value) (zs : List Int) (hu : Ints w 0 B u zs) (e : TypeId) (hW : W = w.alloc (.cells #[u] e)) (n : Nat) (hn : n = w.heap.size) (hx : a.eval x = .slice (some ⟨n, 0, none⟩) 1 1)
    (hl : zss.length + 1 ≤ 1048576)
    (h : ∀ v' w', RefII w' B lo v' (zss ++ [zs]) → (∀ k, k < w.heap.size → v.ownBlock ≠ some k → w'.heap[k]? = w.heap[k]?) → Below lo w w' → w.heap.size + 1 ≤ w'.heap.size → (v'.ownBlock = v.ownBlock ∨ v'.ownBlock = some (w.heap.size + 1)) → K (a.put o.dst v') w') :
    if Region.wanted o (yielded ops a.tmps) = true then Oper.wp Try.prog o a W K Q else E := by
  have hw : Region.wanted o (yielded ops a.tmps) = true := by simp [Region.wanted, hgd]
  rw [if_pos hw]
  subst hW
  subst hn
  obtain ⟨vs, h1, h2, h3⟩ := hv.ex
  refine wp_app1V s x ho v zss.length vs hs u (ints_one hu) e h2 hx hl hv.hlo fun v' w' ho' hkeep hsame hsz hblk => ?_
  have hb : Below lo w w' := hsame.below (Nat.le_refl _) hv.hlo
  have hlen : (zss ++ [zs]).length = zss.length + 1 := by simp
  refine h v' w' ⟨⟨vs ++ [u], by simp [h1], by rw [hlen]; exact ho', fun i hi => ?_⟩, hv.hB, by have := hv.hlo; omega⟩ hkeep hb hsz hblk
  rw [hlen] at hi
  by_cases hil : i < zss.length
  · have e1 : (vs ++ [u]).getD i undef = vs.getD i undef := by simp only [List.getD, List.getElem?_append_left (show i < vs.length by omega)]
    rw [e1, List.getElem_append_left hil]
    exact (h3 i hil).below hb hv.hB
  · obtain rfl : i = zss.length := by omega
    have e1 : (vs ++ [u]).getD zss.length undef = u := by simp only [List.getD, List.getElem?_append_right (show vs.length ≤ zss.length by omega), h1, Nat.sub_self]; rfl
    rw [e1]
    simp only [List.getElem_append_right (Nat.le_refl _), Nat.sub_self, List.getElem_cons_zero]
    exact hu.below hb hv.hB
/-- block q holds a form whose clauses lie below; beside it a list of the call's own grows -/
structure CoreC (w : World) (B lo q : Nat) (L : Int) (vl vc : Value) (left : List Int) (cls : List (List Int)) : Prop where
  cell : TwoC w q 29 (.int .i64 L) vc
  left : OwnI w lo w.heap.size vl left
  cls : RefII w B lo vc cls
  lq : vl.ownBlock ≠ some q
  cq : vc.ownBlock ≠ some q
  apart : ∀ p, vl.ownBlock = some p → vc.ownBlock ≠ some p
section
variable {w w' : World} {B lo q : Nat} {L : Int} {vl vc v2 : Value} {left : List Int} {cls : List (List Int)} {x : Int} {z : List Int}
theorem CoreC.addL (h : CoreC w B lo q L vl vc left cls) (ho : OwnI w' lo w'.heap.size v2 (left ++ [x])) (hk : ∀ k, k < w.heap.size → vl.ownBlock ≠ some k → w'.heap[k]? = w.heap[k]?) (hb : Below lo w w') {n : Nat} (hn : w.heap.size ≤ n) (hbl : v2.ownBlock = vl.ownBlock ∨ v2.ownBlock = some n) :
    CoreC w' B lo q L v2 vc (left ++ [x]) cls := by
  have hql := h.cell.lt
  refine ⟨h.cell.keep (hk q hql h.lq), ho, h.cls.beside hb.size hb (fun k hk' => hk k (h.cls.blk k hk').2 (fun e => h.apart k e hk')), ?_, h.cq, fun p hp => ?_⟩
  · rcases hbl with hbl | hbl
    · rw [hbl]; exact h.lq
    · rw [hbl]; intro e; injection e with e; omega
  · rcases hbl with hbl | hbl
    · rw [hbl] at hp; exact h.apart p hp
    · rw [hbl] at hp
      intro e
      have := (h.cls.blk p e).2
      injection hp with hp; omega
theorem CoreC.midC (h : CoreC w B lo q L vl vc left cls) (hk : ∀ k, k < w.heap.size → vc.ownBlock ≠ some k → w'.heap[k]? = w.heap[k]?) : TwoC w' q 29 (.int .i64 L) vc := h.cell.keep (hk q h.cell.lt h.cq)
theorem CoreC.addC (h : CoreC w B lo q L vl vc left cls) (hr : RefII w' B lo v2 (cls ++ [z])) (hk : ∀ k, k < w.heap.size → vc.ownBlock ≠ some k → w'.heap[k]? = w.heap[k]?) (hlq : lo ≤ q) {n : Nat} (hn : w.heap.size ≤ n) (hz : n ≤ w'.heap.size) (hbl : v2.ownBlock = vc.ownBlock ∨ v2.ownBlock = some n) :
    CoreC (w'.setCell ⟨q, 1, none⟩ v2) B lo q L vl v2 left (cls ++ [z]) := by
  have hql := h.cell.lt
  have hq2 : v2.ownBlock ≠ some q := by
    rcases hbl with hbl | hbl
    · rw [hbl]; exact h.cq
    · rw [hbl]; intro e; injection e with e; omega
  have hsz : (w'.setCell ⟨q, 1, none⟩ v2).heap.size = w'.heap.size := by simp [World.setCell]
  have hst : ∀ k, k ≠ q → (w'.setCell ⟨q, 1, none⟩ v2).heap[k]? = w'.heap[k]? := fun k hk' => Below.heap_setCell _ _ _ _ (by simpa using hk')
  have hbs : Below lo w' (w'.setCell ⟨q, 1, none⟩ v2) := (Below.refl _ _).setCell hlq _
  refine ⟨(h.midC hk).set1 v2, ?_, hr.beside (by omega) hbs (fun k hk' => hst k (fun e => hq2 (by rw [hk', e]))), h.lq, hq2, fun p hp => ?_⟩
  · have h1 := h.left.beside (w' := w') (by omega) (by omega) hk (fun p hp e => h.apart p hp e)
    have := h1.stay2 (w' := w'.setCell ⟨q, 1, none⟩ v2) (by omega) fun k hk' => hst k (fun e => h.lq (by rw [hk', e]))
    rw [hsz]; exact this
  · rcases hbl with hbl | hbl
    · rw [hbl]; exact h.apart p hp
    · intro e
      have := h.left.own.blk p hp
      rw [hbl] at e; injection e with e; omega
theorem CoreC.drew (h : CoreC w B lo q L vl vc left cls) (hd : Drew w w') : CoreC w' B lo q L vl vc left cls := by
  refine ⟨h.cell.drew hd, ?_, h.cls.drew hd, h.lq, h.cq, h.apart⟩
  have := h.left.drew hd; rw [hd.heap]; exact this
end
theorem ups_succ (n : Nat) : ups (n + 1) = ups n ++ [(n : Int)] := by simp [ups, List.range_succ]
theorem ups_len (n : Nat) : (ups n).length = n := by simp [ups]
theorem ups_mem {n : Nat} {x : Int} (h : x ∈ ups n) : 0 ≤ x ∧ x < (n : Int) := by
  obtain ⟨k, hk, rfl⟩ := List.mem_map.1 h
  have := List.mem_range.1 hk
  omega
theorem filter_snoc (S : List Int) (x i : Int) : ((S ++ [x]).filter fun y => decide (y ≠ i)) = (S.filter fun y => decide (y ≠ i)) ++ (if x = i then [] else [x]) := by
  rw [List.filter_append]
  by_cases h : x = i <;> simp [h]
set_option maxHeartbeats 2000000 in
set_option maxRecDepth 100000 in
theorem specCoreOf_any (w : World) {l h : Nat} (v : Value) (f : FormD) (hv : FormR w l h v f) (hh : h ≤ w.heap.size) (hz : SmallII f.clauses) :
    Calls Try.prog 36 #[v] w fun e w' => ∃ r, e = .returned (.tuple #[r, .bool (coreF f).2]) ∧ OwnI w' w.heap.size w'.heap.size r (coreF f).1 ∧ Below w.heap.size w w' := by
  obtain ⟨u, rfl, hu⟩ := hv.ex
  have kL := hv.rng
  obtain ⟨ca, ccap, CV, rfl, cc1, cc2, CR, cd⟩ := hu.out
  obtain ⟨W, hW⟩ : ∃ W, W = w.alloc (.cells #[.int .i64 f.letters, .slice ca f.clauses.length ccap] 29) := ⟨_, rfl⟩
  have hBW : Below w.heap.size w W := by rw [hW]; exact alloc_below _ _
  have hsW : W.heap.size = w.heap.size + 1 := by rw [hW]; simp
  have hbx : BoxF W w.heap.size f.letters (.slice ca f.clauses.length ccap) := by rw [hW]; exact BoxF.new _ _ _ _
  have CC : Hid (∀ (wx : World) (j : Nat), Below w.heap.size w wx → (hj : j < f.clauses.length) → ∃ b o, ca = some ⟨b, o, none⟩ ∧ b < w.heap.size ∧ wx.cell? ⟨b, o + j, none⟩ = some (CV j) ∧ Ints wx 0 w.heap.size (CV j) f.clauses[j]) := fun wx j hb hj => by
    rcases cd with e | ⟨b, o, e, r1, r2, r3, hc⟩
    · rw [e] at hj; simp at hj
    · exact ⟨b, o, e, by omega, by rw [hb.cell (p := ⟨b, o + j, none⟩) (show b < w.heap.size by omega)]; exact hc j hj, ((CR j hj).below hb hh).mono (Nat.zero_le _) hh hb.size⟩
  have HU := Lib.hid (hu.below hBW hh)
  have HB := Lib.hid hbx
  have HBW := Lib.hid hBW
  have hW1 : w.heap.size < W.heap.size := by omega
  have hhW : h ≤ W.heap.size := by omega
  clear hbx hu hv cd CR hBW hsW
  go_enter Try.func36, Try.ntmps36
  go_wp2_with fail
  rw [← hW]
  clear hW
  refine (l05Is_any W _ _ f HB.out.c0 HB.out.c1 hW1 kL HU.out hhW).mono ?_
  rintro e w2 ⟨rfl, hb2⟩
  have hs2 := hb2.size
  have HB2 := Lib.hid (HB.out.below hb2 hW1)
  have HBW2 := Lib.hid (HBW.out.trans (hb2.mono (by omega)))
  have HU2 := Lib.hid (HU.out.below hb2 hhW)
  cases hval : validForm f
  · have HE := Lib.hid (coreF_no (f := f) (by rw [okCore, hval]; rfl))
    clear hb2
    go_wp2
    go_ret2
    exact ⟨_, by rw [HE.out]; rfl, by rw [HE.out]; exact OwnI.nil _ _ _ (Nat.le_refl _), HBW2.out⟩
  obtain ⟨L, hL, hL1, hL2⟩ := lettersN hval
  have hLt : f.letters.toNat = L := by omega
  have hcl48 := (validForm_bounds hval).2.1
  have HLA := Lib.hid (litsAll_of_valid hL hval)
  rw [hL] at HB2
  have HC := Lib.hid (l05First_any w.heap.size L _ f.clauses w2 HB2.out.c0 HB2.out.c1 HU2.out HLA.out hL2 (by omega))
  have HOK : Hid (okCore f = !hasM L f.clauses) := by rw [Hid, okCore, hval, hLt]; rfl
  have HLT := Lib.hid hLt
  clear hval hb2 hLt
  go_wp2_with fail
  refine HC.out.mono ?_
  rintro e w3 ⟨hd3, ⟨rfl, hf⟩ | ⟨n, hn1, rfl, hf⟩⟩
  case inr =>
    have HE : Hid (coreF f = ([], false)) := coreF_no (by rw [HOK.out, hasM, hf]; rfl)
    have HD3 := Lib.hid hd3
    have hnn : (0 : Int) ≤ (n : Int) := by omega
    clear hf hd3
    go_wp2
    go_ret2
    exact ⟨_, by rw [HE.out]; rfl, by rw [HE.out]; exact OwnI.nil _ _ _ (Nat.le_refl _), HBW2.out.trans (HD3.out.below _)⟩
  have HE : Hid (coreF f = (coreOf L f.clauses, true)) := by rw [Hid, coreF_yes (by rw [HOK.out, hasM, hf]; rfl), HLT.out]
  have hs3 : w2.heap.size ≤ w3.heap.size := by rw [hd3.heap]; exact Nat.le_refl _
  have HBW3 := Lib.hid (HBW2.out.trans (hd3.below w.heap.size))
  have HB3 := Lib.hid (HB2.out.drew hd3)
  have h0 := emptySlice w3
  have hs0 : (w3.alloc (.cells #[] 2)).heap.size = w3.heap.size + 1 := by simp
  have H0 : Hid (OwnI (w3.alloc (.cells #[] 2)) w3.heap.size (w3.alloc (.cells #[] 2)).heap.size (.slice (some ⟨w3.heap.size, 0, none⟩) 0 0) []) := h0.mono (Nat.le_refl _) (by omega) (Nat.le_refl _)
  have HB0 := Lib.hid (alloc_below w3 (.cells #[] 2))
  have k1 := (HB3.out.below HB0.out (by omega)).c1
  clear hf hd3 HC HOK h0 hs0
  go_wp2_with fail
  clear k1
  go_loopw [4, 20] (fun ov iv wr => ∃ k : Nat, k ≤ f.clauses.length ∧ iv = .int .i64 k ∧ OwnI wr w3.heap.size wr.heap.size ov (ups k) ∧ Below w3.heap.size w3 wr) (fun _ iv _ => f.clauses.length - (intOf iv).toNat)
  case atStart => exact ⟨0, Nat.zero_le _, rfl, H0.out, HB0.out⟩
  case round =>
    clear H0 HB0
    obtain ⟨k, hk, rfl, ho, hb⟩ := hrel
    have hs := hb.size
    by_cases hlt : k < f.clauses.length
    · have HO := Lib.hid ho
      have HBB := Lib.hid hb
      have HLL : Hid ((ups k).length + 1 ≤ 1099511627776) := by rw [Hid, ups_len]; omega
      clear ho hb
      go_wp2_with (at_builtin; refine wpList_app1 rfl _ _ rfl _ (ups k) rfl (k : Int) _ HO.out rfl (by unfold I64; omega) HLL.out hs ?_)
      intro v4 w4 ho4 hsm hz4 _
      have HO4 : Hid (OwnI w4 w3.heap.size w4.heap.size v4 (ups (k + 1))) := by rw [Hid, ups_succ]; exact ho4
      have HB4 := Lib.hid (HBB.out.trans (hsm.below (Nat.le_refl _) hs))
      clear ho4
      go_wp2
      go_roundw
      case rel => exact ⟨k + 1, by omega, by go_num, HO4.out, HB4.out⟩
      case measure => simp [intOf]; omega
    · obtain rfl : k = f.clauses.length := by omega
      have HO := Lib.hid ho
      have HBB := Lib.hid hb
      have k1 := (HB3.out.below hb (by omega)).c1
      clear ho hb
      go_wp2_with fail
      clear k1
      go_loopw [4, 31] (fun ov iv wr => ∃ (k : Nat) (S : List Int), k ≤ f.clauses.length ∧ iv = .int .i64 k ∧ S.length ≤ 48 ∧ Hid (∀ x ∈ S, 0 ≤ x ∧ x < (f.clauses.length : Int)) ∧ Hid (coreGo L f.clauses (f.clauses.length - k) k S = coreOf L f.clauses) ∧ OwnI wr w3.heap.size wr.heap.size ov S ∧ Below w3.heap.size w3 wr) (fun _ iv _ => f.clauses.length - (intOf iv).toNat)
      case atStart => exact ⟨0, ups f.clauses.length, Nat.zero_le _, rfl, by rw [ups_len]; exact hcl48, Lib.hid (fun x hx => ups_mem hx), Lib.hid rfl, HO.out, HBB.out⟩
      case round =>
        clear HO HBB
        obtain ⟨k, S, hk, rfl, hSl, HSR, H, ho, hb⟩ := hrel
        have hs := hb.size
        by_cases hlt : k < f.clauses.length
        · obtain ⟨sa, sc, rfl, sc1, sc2, sd⟩ := ho.rd.out
          have SC : Hid (∀ (wx : World) (j : Nat), Below wr.heap.size wr wx → j < S.length → ∃ b o, sa = some ⟨b, o, none⟩ ∧ b < wr.heap.size ∧ wx.cell? ⟨b, o + j, none⟩ = some (.int .i64 (S.getD j 0))) := fun wx j hbx hj => by
            rcases sd with e | ⟨b, o, e, r1, r2, r3, hc⟩
            · rw [e] at hj; simp at hj
            · exact ⟨b, o, e, by omega, by rw [hbx.cell (p := ⟨b, o + j, none⟩) (show b < wr.heap.size by omega)]; exact hc j hj⟩
          obtain ⟨w5, hw5⟩ : ∃ w5, w5 = wr := ⟨_, rfl⟩
          subst hw5
          have HO := Lib.hid ho
          have HBB := Lib.hid hb
          have HCS := Lib.hid (core_step (L := L) (cs := f.clauses) (S := S) hlt)
          obtain ⟨WA, hWA⟩ : ∃ W, W = w5.alloc (.cells #[] 2) := ⟨_, rfl⟩
          obtain ⟨WB, hWB⟩ : ∃ W, W = WA.alloc (.cells #[.int .i64 L, .slice none 0 0] 29) := ⟨_, rfl⟩
          have hsA : WA.heap.size = w5.heap.size + 1 := by rw [hWA]; simp
          have hsB : WB.heap.size = w5.heap.size + 2 := by rw [hWB]; simp [hsA]
          have hbA : Below w5.heap.size w5 WA := by rw [hWA]; exact alloc_below _ _
          have hbB : Below w5.heap.size w5 WB := by rw [hWB]; exact hbA.trans ((alloc_below _ _).mono (by omega))
          have HCC : Hid (CoreC WB w.heap.size w5.heap.size (w5.heap.size + 1) L (.slice (some ⟨w5.heap.size, 0, none⟩) 0 0) (.slice none 0 0) [] []) := by
            refine ⟨by rw [hWB, ← hsA]; exact TwoC.new _ _ _ _, ?_, RefII.nil _ _ _ (by omega) (by omega), by simp [Value.ownBlock], by simp [Value.ownBlock], by simp [Value.ownBlock]⟩
            have h0 := emptySlice w5
            rw [← hWA] at h0
            have h1 := h0.alloc (.cells #[.int .i64 L, .slice none 0 0] 29)
            rw [← hWB] at h1
            exact h1.mono (Nat.le_refl _) (by omega) (Nat.le_refl _)
          have HBB5 := Lib.hid hbB
          have k0 := (HB3.out.below hb (by omega)).c0
          have k1 := (HB3.out.below hb (by omega)).c1
          have k0A : (w5.alloc (.cells #[] 2)).cell? ⟨w.heap.size, 0, none⟩ = some (.int .i64 L) := by rw [← hWA]; exact ((HB3.out.below hb (by omega)).below hbA (by omega)).c0
          have HWA := Lib.hid hWA
          have HWB := Lib.hid hWB
          have hsB' : w5.heap.size + 1 < WB.heap.size := by omega
          clear ho hb sd hbA hbB hsB hWA hWB hsA
          go_wp2_with fail
          rw [← HWA.out, ← HWB.out]
          clear HWA HWB k0 k1 k0A
          go_loopw [7, 40] (fun ov iv wr => ∃ (q : Nat) (vc : Value), q ≤ S.length ∧ iv = .int .i64 q ∧ CoreC wr w.heap.size w5.heap.size (w5.heap.size + 1) L ov vc ((S.take q).filter fun y => decide (y ≠ (k : Int))) (pick f.clauses ((S.take q).filter fun y => decide (y ≠ (k : Int)))) ∧ Below w5.heap.size w5 wr) (fun _ iv _ => S.length - (intOf iv).toNat)
          case atStart => exact ⟨0, _, Nat.zero_le _, rfl, HCC.out, HBB5.out⟩
          case round =>
            clear HCC HBB5
            obtain ⟨q, vc, hq, rfl, hcc, hb6⟩ := hrel
            have hs6 := hb6.size
            by_cases hql : q < S.length
            · obtain ⟨sb, so, rfl, hsb, sck⟩ := SC.out wr q hb6 hql
              have hxr := HSR.out _ (getDI_mem hql)
              have HT : Hid (S.take (q + 1) = S.take q ++ [S.getD q 0]) := by
                rw [Hid, List.take_succ_eq_append_getElem hql]; simp [List.getD, hql]
              obtain ⟨x, hx⟩ : ∃ x, x = S.getD q 0 := ⟨_, rfl⟩
              rw [← hx] at sck hxr HT
              have HFS := Lib.hid (filter_snoc (S.take q) x k)
              obtain ⟨F, hF⟩ : ∃ F, F = (S.take q).filter fun y => decide (y ≠ (k : Int)) := ⟨_, rfl⟩
              rw [← hF] at hcc HFS
              have hFl : F.length ≤ 48 := by rw [hF]; have := List.length_filter_le (fun y => decide (y ≠ (k : Int))) (S.take q); rw [List.length_take] at this; omega
              have HCC := Lib.hid hcc
              have HB6 := Lib.hid hb6
              by_cases hxk : x = (k : Int)
              · rw [if_pos hxk, List.append_nil] at HFS
                have hne : (x != (k : Int)) = false := by simpa using hxk
                subst hxk
                clear hcc hb6 hx hF
                go_wp2
                go_roundw
                case rel => exact ⟨q + 1, vc, by omega, by go_num, by rw [HT.out, HFS.out]; exact HCC.out, HB6.out⟩
                case measure => simp [intOf]; omega
              · rw [if_neg hxk] at HFS
                have hne : (x != (k : Int)) = true := by simpa using hxk
                obtain ⟨m, rfl⟩ : ∃ m : Nat, x = (m : Int) := ⟨x.toNat, by omega⟩
                have hml : m < f.clauses.length := by omega
                have hmi : (m : Int) < (f.clauses.length : Int) := by omega
                have HXQ := Lib.hid hx
                clear hcc hb6 hx hF hxk hxr
                go_wp2_with (at_builtin; refine wpList_app1K rfl _ _ rfl _ F rfl (m : Int) _ HCC.out.left rfl (by unfold I64; omega) (by omega) hs6 ?_)
                intro v7 w7 ho7 hk7 hsm7 hz7 hbl7
                have hb7 := hsm7.below (B := w5.heap.size) (Nat.le_refl _) hs6
                have hcc7 := HCC.out.addL ho7 hk7 hb7 (Nat.le_succ _) hbl7
                have hb57 := HB6.out.trans hb7
                have hs7 := hb57.size
                obtain ⟨ya, yc, hve⟩ := hcc7.cls.shape
                rw [pick_len] at hve
                subst hve
                obtain ⟨b2, o2, e2, _, sck7⟩ := SC.out w7 q hb57 hql
                injection e2 with e2
                injection e2 with e2 e2'
                subst e2; subst e2'
                rw [← HXQ.out] at sck7
                obtain ⟨cb, co, rfl, hcb, cck, cri⟩ := CC.out w7 m ((HBW3.out.trans (HBB.out.mono (by omega))).trans (hb57.mono (by omega))) hml
                obtain ⟨ka, kc, hke, _, _, _⟩ := cri.out
                rw [hke] at cck cri
                have HCR := Lib.hid cri
                have k1 := ((HB3.out.below HBB.out (by omega)).below hb57 (by omega)).c1
                have hbal : Below w7.heap.size w7 (w7.alloc (.cells #[.slice ka f.clauses[m].length kc] 40)) := alloc_below _ _
                have k1a := ((((HB3.out.below HBB.out (by omega)).below hb57 (by omega)).below hbal (by omega))).c1
                have scka := sck7
                rw [← hbal.cell (p := ⟨sb, so + q, none⟩) (show sb < w7.heap.size by omega)] at scka
                have ccka := cck
                rw [← hbal.cell (p := ⟨cb, co + m, none⟩) (show cb < w7.heap.size by omega)] at ccka
                have c1 := hcc7.cell.c1
                have c1a := (hcc7.cell.alloc (.cells #[.slice ka f.clauses[m].length kc] 40)).c1
                have HC7 : Hid (CoreC w7.drew w.heap.size w5.heap.size (w5.heap.size + 1) L v7 (.slice ya F.length yc) (F ++ [(m : Int)]) (pick f.clauses F)) := hcc7.drew ⟨1, rfl⟩
                have HRW : Hid (Ints w7.drew 0 w.heap.size (.slice ka f.clauses[m].length kc) f.clauses[m]) := cri.drew ⟨1, rfl⟩
                have HB7 : Hid (Below w5.heap.size w5 w7.drew) := hb57.trans ((show Drew w7 w7.drew from ⟨1, rfl⟩).below _)
                have HPL : Hid ((pick f.clauses F).length + 1 ≤ 1048576) := by rw [Hid, pick_len]; omega
                have HGM : Hid (f.clauses.getD m [] = f.clauses[m]) := getD_get hml
                have HPT : Hid (pick f.clauses (F ++ [(m : Int)]) = pick f.clauses F ++ [f.clauses[m]]) := by rw [Hid, pick_snoc, Int.toNat_natCast, HGM.out]
                clear ho7 hk7 hsm7 hz7 hbl7 hb7 hcc7 hb57 sck hke cri hbal HCR HCC HGM
                go_wp2_with fail
                go_region_law ((refine step_appRefK (by rfl) _ _ (by rfl) _ (pick f.clauses F) (by first | (simp [Act.eval]; done) | (simp [Act.eval, Act.put]; done)) HC7.out.cls _ f.clauses[m] HRW.out 40 (by rfl) w7.heap.size (by rfl) (by first | (simp [Act.eval]; done) | (simp [Act.eval, Act.put]; done)) HPL.out ?_; intro v8 w8 hr8 hk8 hb8 hz8 hbl8; have hm8 := HC7.out.midC hk8; have c8 := hm8.c1; have f8 := hm8.f1; obtain ⟨za, zc, hze⟩ := hr8.shape; rw [List.length_append, pick_len] at hze; subst hze))
                all_goals
                  have HC8 := Lib.hid (HC7.out.addC hr8 hk8 (Nat.le_succ _) (Nat.le_succ _) hz8 hbl8)
                  have HB8 := Lib.hid ((HB7.out.trans hb8).setCell (p := ⟨w5.heap.size + 1, 1, none⟩) (Nat.le_succ _) (.slice za (F.length + [f.clauses[m]].length) zc))
                  clear hr8 hk8 hb8 hz8 hbl8 hm8
                  go_wp2
                  go_roundw
                  case rel => exact ⟨q + 1, _, by omega, by go_num, by rw [HT.out, HFS.out, HPT.out]; exact HC8.out, HB8.out⟩
                  case measure => simp [intOf]; omega
            · obtain rfl : q = S.length := by omega
              rw [List.take_length] at hcc
              have HSF2 : Hid (∀ x ∈ S.filter (fun y => decide (y ≠ (k : Int))), 0 ≤ x ∧ x < (f.clauses.length : Int)) := fun x hx => HSR.out x (List.mem_filter.1 hx).1
              have hFl : (S.filter fun y => decide (y ≠ (k : Int))).length ≤ 48 := by have := List.length_filter_le (fun y => decide (y ≠ (k : Int))) S; omega
              obtain ⟨F, hF⟩ : ∃ F, F = S.filter fun y => decide (y ≠ (k : Int)) := ⟨_, rfl⟩
              rw [← hF] at hcc HSF2 hFl HCS
              have HPL : Hid ((pick f.clauses F).length ≤ 48) := by rw [Hid, pick_len]; exact hFl
              have HFI := Lib.hid (l05First_any (w5.heap.size + 1) L _ (pick f.clauses F) wr hcc.cell.c0 hcc.cell.c1 hcc.cls.rd (pick_all HLA.out HSF2.out) hL2 (by have := HPL.out; omega))
              have HLE := Lib.hid (hcc.left.mono (show w3.heap.size ≤ w5.heap.size by omega) (Nat.le_refl _) (Nat.le_refl _))
              have HOI := Lib.hid (HO.out.below hb6 (Nat.le_refl _))
              have HB6 := Lib.hid (HBB.out.trans (hb6.mono hs))
              clear hcc hb6 hF
              go_wp2_with fail
              refine HFI.out.mono ?_
              rintro e w9 ⟨hd9, ⟨rfl, hf⟩ | ⟨n, hn1, rfl, hf⟩⟩
              · have HN : Hid (coreGo L f.clauses (f.clauses.length - (k + 1)) (k + 1) F = coreOf L f.clauses) := by
                  rw [Hid, ← H.out, HCS.out, if_neg (by rw [hasM, hf]; decide)]
                have h1 := HLE.out.drew hd9
                rw [← hd9.heap] at h1
                have HL9 := Lib.hid h1
                clear h1
                have HB9 := Lib.hid (HB6.out.trans (hd9.below w3.heap.size))
                clear hf hd9
                go_wp2
                go_roundw
                case rel => exact ⟨k + 1, F, by omega, by go_num, hFl, HSF2, HN, HL9.out, HB9.out⟩
                case measure => simp [intOf]; omega
              · have HN : Hid (coreGo L f.clauses (f.clauses.length - (k + 1)) (k + 1) S = coreOf L f.clauses) := by
                  rw [Hid, ← H.out, HCS.out, if_pos (by rw [hasM, hf]; rfl)]
                have hnn : ¬ (n : Int) < 0 := by omega
                have HO9 : Hid (OwnI w9 w3.heap.size w9.heap.size (.slice sa S.length sc) S) := by
                  have h1 := (HOI.out.mono (Nat.le_refl _) hs6 (Nat.le_refl _)).drew hd9
                  rw [← hd9.heap] at h1
                  exact h1
                have HB9 := Lib.hid (HB6.out.trans (hd9.below w3.heap.size))
                clear hf hd9
                go_wp2
                go_roundw
                case rel => exact ⟨k + 1, S, by omega, by go_num, hSl, HSR, HN, HO9.out, HB9.out⟩
                case measure => simp [intOf]; omega
        · obtain rfl : k = f.clauses.length := by omega
          have HCO : Hid (S = coreOf L f.clauses) := by rw [Hid, ← H.out, Nat.sub_self]; rfl
          have HO := Lib.hid ho
          have HBB := Lib.hid (HBW3.out.trans (hb.mono (by omega)))
          obtain ⟨sa, sc, rfl, _, _, _⟩ := ho.rd.out
          clear ho hb
          go_wp2
          go_ret2
          exact ⟨_, by rw [HE.out]; rfl, by rw [HE.out, ← HCO.out]; exact HO.out.mono (by omega) (Nat.le_refl _) (Nat.le_refl _), HBB.out⟩
end Go.Proofs.Ytdeelgnfnhdklaa
