/-
  The source of choices of the reference's draws: bytes in memory, and the contracts of next, pick, one and l00From: they give some number below what is asked for.
-/
import Derived.Test.YtkankfdpodofjaaBase
namespace Go.Proofs.Ytkankfdpodofjaa
open Go.RowKit
set_option linter.unusedVariables false
set_option maxRecDepth 100000

/-! ### bytes -/
structure Byts (w : World) (lo hi : Nat) (v : Value) (zs : List Int) : Prop where
  sl : Sl w lo hi 1 zs.length v (fun i => .int .u8 (zs.getD i 0))
  rng : ∀ n ∈ zs, 0 ≤ n ∧ n ≤ 255
section
variable {w w' : World} {lo hi : Nat} {v : Value} {zs : List Int}
theorem Byts.out (h : Byts w lo hi v zs) : ∃ a cap, v = .slice a zs.length cap ∧ zs.length ≤ cap ∧ cap ≤ 9223372036854775807 ∧
    (zs = [] ∨ ∃ b off, a = some ⟨b, off, none⟩ ∧ lo ≤ b ∧ b < hi ∧ hi ≤ w.heap.size ∧ ∀ i, i < zs.length → w.cell? ⟨b, off + i, none⟩ = some (.int .u8 (zs.getD i 0))) := by
  obtain ⟨a, cap, e, h1, h2, h3⟩ := h.sl.out
  refine ⟨a, cap, e, h1, h2, ?_⟩
  rcases h3 with h3 | ⟨b, off, r1, r2, r3, r4, r5⟩
  · exact .inl (List.eq_nil_of_length_eq_zero h3)
  · exact .inr ⟨b, off, r1, r2, r3, r4, fun i hi => r5 i (by omega)⟩
theorem Byts.len (h : Byts w lo hi v zs) : zs.length ≤ 9223372036854775807 := h.sl.len
theorem Byts.mono {lo' hi' : Nat} (h : Byts w lo hi v zs) (hl : lo' ≤ lo) (hh : hi ≤ hi') (hw : hi' ≤ w.heap.size) : Byts w lo' hi' v zs := ⟨h.sl.mono hl hh hw, h.rng⟩
theorem Byts.keep (h : Byts w lo hi v zs) (hs : w.heap.size ≤ w'.heap.size) (hb : ∀ k, lo ≤ k → k < hi → k < w.heap.size → w'.heap[k]? = w.heap[k]?) : Byts w' lo hi v zs := ⟨h.sl.keep hs hb, h.rng⟩
theorem Byts.below {B : Nat} (h : Byts w lo hi v zs) (hb : Below B w w') (hB : hi ≤ B) : Byts w' lo hi v zs := ⟨h.sl.below hb hB, h.rng⟩
theorem Byts.same {l h' : Nat} (h : Byts w lo hi v zs) (hb : Same l h' w w') (hB : hi ≤ l ∨ h' ≤ lo) : Byts w' lo hi v zs := ⟨h.sl.same hb hB, h.rng⟩
theorem Byts.drew (h : Byts w lo hi v zs) (hd : Drew w w') : Byts w' lo hi v zs := ⟨h.sl.drew hd, h.rng⟩
theorem Byts.byte (h : Byts w lo hi v zs) {i : Nat} (hi : i < zs.length) : 0 ≤ zs.getD i 0 ∧ zs.getD i 0 ≤ 255 := by
  have : zs.getD i 0 ∈ zs := by rw [List.getD, List.getElem?_eq_getElem hi]; exact List.getElem_mem _
  exact h.rng _ this
end
/-! ### the source -/
theorem lt_of_blk {w : World} {q : Nat} {o : Obj} (h : w.heap[q]? = some o) : q < w.heap.size := by
  by_cases hq : q < w.heap.size
  · exact hq
  · rw [Array.getElem?_eq_none (by omega)] at h; cases h
structure Cel3 (w : World) (q : Nat) (t : TypeId) (x y z : Value) : Prop where
  b : w.heap[q]? = some (.cells #[x, y, z] t (0, 0))
section
variable {w w' : World} {q : Nat} {t : TypeId} {x y z : Value}
theorem Cel3.lt (h : Cel3 w q t x y z) : q < w.heap.size := lt_of_blk h.b
theorem Cel3.c0 (h : Cel3 w q t x y z) : w.cell? ⟨q, 0, none⟩ = some x := by simp [World.cell?, h.b]
theorem Cel3.c1 (h : Cel3 w q t x y z) : w.cell? ⟨q, 1, none⟩ = some y := by simp [World.cell?, h.b]
theorem Cel3.c2 (h : Cel3 w q t x y z) : w.cell? ⟨q, 2, none⟩ = some z := by simp [World.cell?, h.b]
theorem Cel3.f0 (h : Cel3 w q t x y z) : w.frozen? ⟨q, 0, none⟩ = false := by simp [World.frozen?, h.b]
theorem Cel3.f1 (h : Cel3 w q t x y z) : w.frozen? ⟨q, 1, none⟩ = false := by simp [World.frozen?, h.b]
theorem Cel3.f2 (h : Cel3 w q t x y z) : w.frozen? ⟨q, 2, none⟩ = false := by simp [World.frozen?, h.b]
theorem Cel3.keep (h : Cel3 w q t x y z) (hb : w'.heap[q]? = w.heap[q]?) : Cel3 w' q t x y z := ⟨by rw [hb]; exact h.b⟩
theorem Cel3.drew (h : Cel3 w q t x y z) (hd : Drew w w') : Cel3 w' q t x y z := h.keep (by rw [hd.heap])
theorem Cel3.set1 (h : Cel3 w q t x y z) (u : Value) : Cel3 (w.setCell ⟨q, 1, none⟩ u) q t x u z := by
  have hlt := h.lt
  have h' : w.heap[q] = .cells #[x, y, z] t (0, 0) := by simpa [Array.getElem?_eq_getElem hlt] using h.b
  refine ⟨?_⟩
  show (w.heap.modify q _)[q]? = _
  rw [Array.getElem?_eq_getElem (by simpa using hlt), Array.getElem_modify_self, h']
  rfl
theorem Cel3.set2 (h : Cel3 w q t x y z) (u : Value) : Cel3 (w.setCell ⟨q, 2, none⟩ u) q t x y u := by
  have hlt := h.lt
  have h' : w.heap[q] = .cells #[x, y, z] t (0, 0) := by simpa [Array.getElem?_eq_getElem hlt] using h.b
  refine ⟨?_⟩
  show (w.heap.modify q _)[q]? = _
  rw [Array.getElem?_eq_getElem (by simpa using hlt), Array.getElem_modify_self, h']
  rfl
theorem Cel3.new (w : World) (t : TypeId) (x y z : Value) : Cel3 (w.alloc (.cells #[x, y, z] t)) w.heap.size t x y z := ⟨heap_alloc_new w _⟩
end
/-- block q is a source that has been asked n times at most -/
structure SrcC (w : World) (q n : Nat) : Prop where
  ex : ∃ (v : Value) (bs : List Int) (a s l h : Nat), Cel3 w q 96 v (.int .i64 a) (.int .u64 s) ∧ Byts w l h v bs ∧ h ≤ q ∧ a ≤ n ∧ s < 18446744073709551616
section
variable {w w' : World} {q n : Nat}
theorem SrcC.lt (h : SrcC w q n) : q < w.heap.size := by obtain ⟨_, _, _, _, _, _, h1, _⟩ := h.ex; exact h1.lt
theorem SrcC.mono {m : Nat} (h : SrcC w q n) (hm : n ≤ m) : SrcC w q m := by
  obtain ⟨v, bs, a, s, l, g, h1, h2, h3, h4, h5⟩ := h.ex; exact ⟨v, bs, a, s, l, g, h1, h2, h3, by omega, h5⟩
theorem SrcC.same {lo hi : Nat} (h : SrcC w q n) (hs : Same lo hi w w') (hq : q < lo) : SrcC w' q n := by
  obtain ⟨v, bs, a, s, l, g, h1, h2, h3, h4, h5⟩ := h.ex
  exact ⟨v, bs, a, s, l, g, h1.keep (hs.block q h1.lt (by omega)), h2.same hs (.inl (by omega)), h3, h4, h5⟩
theorem SrcC.below {B : Nat} (h : SrcC w q n) (hs : Below B w w') (hq : q < B) : SrcC w' q n := by
  obtain ⟨v, bs, a, s, l, g, h1, h2, h3, h4, h5⟩ := h.ex
  exact ⟨v, bs, a, s, l, g, h1.keep (hs.block q hq), h2.below hs (by omega), h3, h4, h5⟩
theorem SrcC.drew (h : SrcC w q n) (hd : Drew w w') : SrcC w' q n := h.below (hd.below (q + 1)) (Nat.lt_succ_self _)
theorem SrcC.alloc (h : SrcC w q n) (o : Obj) : SrcC (w.alloc o) q n := h.below ((Below.refl w.heap.size w).alloc (Nat.le_refl _) o) h.lt
end
theorem seed_any (s : Nat) (y : Int) : ∃ s3 : Nat, IntKind.u64.wrap (IntKind.u64.wrap (IntKind.u64.wrap ((s : Int) * 6364136223846793005) + y) + 1442695040888963407) = (s3 : Int) ∧ s3 < 18446744073709551616 := by
  generalize IntKind.u64.wrap (IntKind.u64.wrap ((s : Int) * 6364136223846793005) + y) + 1442695040888963407 = z
  refine ⟨(IntKind.u64.wrap z).toNat, ?_, ?_⟩
  · rw [IntKind.wrap_u64]; omega
  · rw [IntKind.wrap_u64]; omega
theorem seed0_any (s : Nat) : ∃ s3 : Nat, IntKind.u64.wrap (IntKind.u64.wrap (IntKind.u64.wrap ((s : Int) * 6364136223846793005)) + 1442695040888963407) = (s3 : Int) ∧ s3 < 18446744073709551616 := by
  generalize IntKind.u64.wrap (IntKind.u64.wrap ((s : Int) * 6364136223846793005)) + 1442695040888963407 = z
  refine ⟨(IntKind.u64.wrap z).toNat, ?_, ?_⟩
  · rw [IntKind.wrap_u64]; omega
  · rw [IntKind.wrap_u64]; omega
theorem byte_any (s : Nat) (hs : s < 18446744073709551616) : ∃ x : Int, wrap64 (bits .and .u64 ((s : Int) / 1099511627776) 255) = x ∧ 0 ≤ x ∧ x ≤ 255 := by
  have e : ((s : Int) / 1099511627776) = ((s / 1099511627776 : Nat) : Int) := by simp
  have hl : s / 1099511627776 ≤ s := Nat.div_le_self _ _
  rw [e]
  generalize s / 1099511627776 = a at *
  have h1 : (BitVec.ofInt 64 (a : Int)).toNat = a := by
    rw [BitVec.ofInt_natCast, BitVec.toNat_ofNat]; exact Nat.mod_eq_of_lt (by omega)
  have h2 : (BitVec.ofInt 64 ((255 : Nat) : Int)).toNat = 255 := rfl
  have h3 : bits .and .u64 (a : Int) 255 = ((a &&& 255 : Nat) : Int) := by
    show IntKind.u64.wrap ((BitVec.ofInt 64 (a : Int) &&& BitVec.ofInt 64 ((255 : Nat) : Int)).toNat : Int) = _
    rw [BitVec.toNat_and, h1, h2]
    have : a &&& 255 ≤ 255 := Nat.and_le_right
    exact IntWalk.u64_in _ (by omega)
  have : a &&& 255 ≤ 255 := Nat.and_le_right
  exact ⟨((a &&& 255 : Nat) : Int), by rw [h3]; unfold wrap64; omega, by omega, by omega⟩
set_option maxHeartbeats 800000 in
set_option maxRecDepth 100000 in
theorem srcNext_any {q n : Nat} (w : World) (hq : SrcC w q n) (hn : n ≤ 1099511627776) :
    Calls Try.prog 86 #[.pointer (some ⟨q, 0, none⟩)] w fun e w' => ∃ x : Int, e = .returned (.int .i64 x) ∧ (0 ≤ x ∧ x ≤ 255) ∧ SrcC w' q (n + 1) ∧ Same q (q + 1) w w' := by
  obtain ⟨v, bs, a, s, l, h, h1, h2, h3, h4, h5⟩ := hq.ex
  obtain ⟨ba, bc, rfl, hc1, hc2, hd⟩ := h2.out
  have k0 := h1.c0
  have k1 := h1.c1
  have k2 := h1.c2
  have f1 := h1.f1
  have f2 := h1.f2
  have H1 := Lib.hid h1
  have H2 := Lib.hid h2
  by_cases hlt : a < bs.length
  · rcases hd with hd | ⟨b, off, rfl, hb1, hb2, hb3, hcell⟩
    · rw [hd] at hlt; simp at hlt
    have hck := hcell a hlt
    obtain ⟨y, hy⟩ : ∃ y, y = bs.getD a 0 := ⟨_, rfl⟩
    rw [← hy] at hck
    have hyr : 0 ≤ y ∧ y ≤ 255 := by rw [hy]; exact h2.byte hlt
    clear h1 h2 hcell hy
    go_enter Try.func86, Try.ntmps86
    go_wp2_with fail
    go_quiet (fail)
    obtain ⟨w1, hw1⟩ : ∃ w1, w1 = w.drewN nq := ⟨_, rfl⟩
    have hD1 : Drew w w1 := ⟨_, hw1⟩
    rw [← hw1]
    clear hw1
    rw [← hD1.cell] at k0 k1 k2 hck
    rw [← hD1.frozen] at f1 f2
    go_wp2_with fail
    go_quiet (fail)
    obtain ⟨w2, hw2⟩ : ∃ w2, w2 = w1.drewN nq := ⟨_, rfl⟩
    have hD2 : Drew w1 w2 := ⟨_, hw2⟩
    rw [← hw2]
    clear hw2
    rw [← hD2.cell] at k0 k1 k2 hck
    rw [← hD2.frozen] at f1 f2
    obtain ⟨s3, hs3, hs4⟩ := seed_any s y
    go_wp2_with fail
    obtain ⟨W3, hW3⟩ : ∃ X, X = (w2.setCell ⟨q, 1, none⟩ (.int .i64 ((a : Int) + 1))).setCell ⟨q, 2, none⟩ (.int .u64 (s3 : Int)) := ⟨_, rfl⟩
    have h13 : Cel3 W3 q 96 (.slice (some ⟨b, off, none⟩) bs.length bc) (.int .i64 ((a + 1 : Nat) : Int)) (.int .u64 (s3 : Int)) := by rw [hW3]; exact (((H1.out.drew hD1).drew hD2).set1 _).set2 _
    have hS : Same q (q + 1) w2 W3 := by rw [hW3]; exact ((Same.refl q (q + 1) w2).setCell (p := ⟨q, 1, none⟩) (Nat.le_refl _) (Nat.lt_succ_self _) _).setCell (p := ⟨q, 2, none⟩) (Nat.le_refl _) (Nat.lt_succ_self _) _
    rw [← hW3]
    have HSR : Hid (SrcC W3 q (n + 1)) := ⟨_, bs, a + 1, s3, l, h, h13, ((H2.out.drew hD1).drew hD2).same hS (.inl h3), h3, by omega, hs4⟩
    have HSS : Hid (Same q (q + 1) w W3) := ((Same.of_below (hD1.below w.heap.size) (Nat.le_refl _)).trans (Same.of_below (hD2.below w1.heap.size) (Nat.le_refl _))).trans hS
    have HS4 := Lib.hid hs4
    clear hs3 hs4 k0 k1 k2 f1 f2 hW3 hS
    have k0 := h13.c0
    have k1 := h13.c1
    have k2 := h13.c2
    clear h13
    have hle : ((a : Int) + 1 ≤ (bs.length : Int)) := by omega
    clear hck
    go_quiet (fail)
    go_wp2
    go_ret
    exact ⟨y, rfl, hyr, HSR.out.drew (Drew.one _ _), HSS.out.trans (Same.of_below ((Drew.one W3 _).below W3.heap.size) (Nat.le_refl _))⟩
  · clear hd h1 h2
    go_enter Try.func86, Try.ntmps86
    go_wp2_with fail
    go_quiet (fail)
    obtain ⟨w2, hw2⟩ : ∃ w2, w2 = w.drewN nq := ⟨_, rfl⟩
    have hD2 : Drew w w2 := ⟨_, hw2⟩
    rw [← hw2]
    clear hw2
    rw [← hD2.cell] at k0 k1 k2
    rw [← hD2.frozen] at f1 f2
    obtain ⟨s3, hs3, hs4⟩ := seed0_any s
    go_wp2_with fail
    obtain ⟨W3, hW3⟩ : ∃ X, X = (w2.setCell ⟨q, 1, none⟩ (.int .i64 ((a : Int) + 1))).setCell ⟨q, 2, none⟩ (.int .u64 (s3 : Int)) := ⟨_, rfl⟩
    have h13 : Cel3 W3 q 96 (.slice ba bs.length bc) (.int .i64 ((a + 1 : Nat) : Int)) (.int .u64 (s3 : Int)) := by rw [hW3]; exact ((H1.out.drew hD2).set1 _).set2 _
    have hS : Same q (q + 1) w2 W3 := by rw [hW3]; exact ((Same.refl q (q + 1) w2).setCell (p := ⟨q, 1, none⟩) (Nat.le_refl _) (Nat.lt_succ_self _) _).setCell (p := ⟨q, 2, none⟩) (Nat.le_refl _) (Nat.lt_succ_self _) _
    rw [← hW3]
    have HSR : Hid (SrcC W3 q (n + 1)) := ⟨_, bs, a + 1, s3, l, h, h13, (H2.out.drew hD2).same hS (.inl h3), h3, by omega, hs4⟩
    have HSS : Hid (Same q (q + 1) w W3) := (Same.of_below (hD2.below w.heap.size) (Nat.le_refl _)).trans hS
    have HS4 := Lib.hid hs4
    clear hs3 hs4 k0 k1 k2 f1 f2 hW3 hS
    have k0 := h13.c0
    have k1 := h13.c1
    have k2 := h13.c2
    clear h13
    have hle : ¬ ((a : Int) + 1 ≤ (bs.length : Int)) := by omega
    go_quiet (fail)
    obtain ⟨y, hy, hy0, hy1⟩ := byte_any s3 HS4.out
    go_wp2
    go_ret
    exact ⟨y, rfl, ⟨hy0, hy1⟩, HSR.out.drew (Drew.one _ _), HSS.out.trans (Same.of_below ((Drew.one W3 _).below W3.heap.size) (Nat.le_refl _))⟩
set_option maxHeartbeats 800000 in
set_option maxRecDepth 100000 in
theorem srcPick_any {q n : Nat} (m : Int) (w : World) (hq : SrcC w q n) (hn : n ≤ 1099511627000) (h1 : 1 ≤ m) (h2 : m ≤ 200) :
    Calls Try.prog 53 #[.pointer (some ⟨q, 0, none⟩), .int .i64 m] w fun e w' => ∃ x : Int, e = .returned (.int .i64 x) ∧ (0 ≤ x ∧ x < m) ∧ SrcC w' q (n + 1) ∧ Same q (q + 1) w w' := by
  by_cases hm : m ≤ 1
  · obtain rfl : m = 1 := by omega
    go_enter Try.func53, Try.ntmps53
    go_wp2
    go_ret
    exact ⟨0, rfl, ⟨by decide, by decide⟩, hq.mono (Nat.le_succ _), Same.refl _ _ _⟩
  · have HN := Lib.hid (srcNext_any w hq (by omega))
    have hm2 : ¬ (200 < m) := by omega
    clear hq
    go_enter Try.func53, Try.ntmps53
    go_wp2_with fail
    refine HN.out.mono ?_
    rintro e w2 ⟨x, rfl, hx, hs, hsm⟩
    have HS := Lib.hid hs
    have HM := Lib.hid hsm
    have e1 : x.tmod m = x % m := Int.tmod_eq_emod_of_nonneg hx.1
    have hr0 : 0 ≤ x % m := Int.emod_nonneg _ (by omega)
    have hr1 : x % m < m := Int.emod_lt_of_pos _ (by omega)
    have hm0 : m ≠ 0 := by omega
    obtain ⟨z, hz⟩ : ∃ z, x % m = z := ⟨_, rfl⟩
    rw [hz] at e1 hr0 hr1
    clear hs hsm
    go_wp2_with fail
    go_ret
    exact ⟨z, rfl, ⟨hr0, hr1⟩, HS.out, HM.out⟩
set_option maxHeartbeats 400000 in
set_option maxRecDepth 100000 in
theorem l00From_any {l h : Nat} (v : Value) (bs : List Int) (w : World) (hv : Byts w l h v bs) (hh : h ≤ w.heap.size) :
    Calls Try.prog 41 #[v] w fun e w' => e = .returned (.pointer (some ⟨w.heap.size, 0, none⟩)) ∧ SrcC w' w.heap.size 0 ∧ Below w.heap.size w w' := by
  obtain ⟨a, cap, rfl, hc1, hc2, hd⟩ := hv.out
  have hb : Below w.heap.size w (w.alloc (.cells #[.slice a bs.length cap, .int .i64 0, .int .u64 0] 96)) := (Below.refl _ _).alloc (Nat.le_refl _) _
  have hs : SrcC (w.alloc (.cells #[.slice a bs.length cap, .int .i64 0, .int .u64 0] 96)) w.heap.size 0 :=
    ⟨_, bs, 0, 0, l, h, Cel3.new w 96 _ _ _, hv.below hb hh, hh, Nat.le_refl _, by decide⟩
  have HB := Lib.hid hb
  have HS := Lib.hid hs
  clear hv hd hb hs
  go_enter Try.func41, Try.ntmps41
  go_wp2
  go_ret
  exact ⟨rfl, HS.out, HB.out⟩
end Go.Proofs.Ytkankfdpodofjaa
