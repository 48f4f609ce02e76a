/-
  BestTour: contract in the program: the tour that comes back is one, begins with the first city, and none that does so is shorter.
-/
import Derived.Test.YtkankfdpodofjaaTourP
import Derived.Test.YtkankfdpodofjaaMoveA
import Derived.Test.YtkankfdpodofjaaCopy
import Derived.Test.YtkankfdpodofjaaApp2
import Derived.Test.YtkankfdpodofjaaOneN
import Derived.Lib.SliceRun
namespace Go.Proofs.Ytkankfdpodofjaa
open Go.RowKit
set_option linter.unusedVariables false
set_option maxRecDepth 100000

/-- the begin of a tour -/
structure Beg (B : List Int) (n : Nat) : Prop where
  nd : B.Nodup
  rng : ∀ x ∈ B, 0 ≤ x ∧ x < (n : Int)
  hd : B.getD 0 0 = 0
  pos : 1 ≤ B.length
theorem Beg.snoc {B : List Int} {n : Nat} (h : Beg B n) {c : Int} (h0 : 0 ≤ c) (h1 : c < n) (hc : c ∉ B) : Beg (B ++ [c]) n := by
  obtain ⟨a, b, d, e⟩ := h
  refine ⟨?_, ?_, ?_, by simp⟩
  · rw [List.nodup_append]
    refine ⟨a, by simp, fun x hx y hy => ?_⟩
    rw [List.mem_singleton] at hy
    subst hy
    intro he; subst he; exact hc hx
  · intro x hx
    rcases List.mem_append.1 hx with hx | hx
    · exact b x hx
    · rw [List.mem_singleton] at hx; subst hx; exact ⟨h0, h1⟩
  · cases B with
    | nil => simp at e
    | cons x r => simpa [List.getD] using d
theorem Beg.tour {B : List Int} {n : Nat} (h : Beg B n) (hl : B.length = n) : Tour0 B n := ⟨hl, h.rng, h.nd, h.hd⟩
/-- what is known of the best tour when the cities below k have been tried -/
def BSt (ws : List Int) (n : Nat) (B : List Int) (b0 : Value) (l0 : Int) (w : World) (k : Nat) (bv : Value) (least : Int) : Prop :=
  (bv = .slice none 0 0 ∧ b0 = .slice none 0 0 ∧ ∀ c : Nat, 1 ≤ c → c < k → (c : Int) ∈ B) ∨
  (∃ A, Ints w 0 w.heap.size bv A ∧ Tour0 A n ∧ least = longP ws n A ∧ (b0 ≠ .slice none 0 0 → least ≤ l0) ∧ ∀ (T : List Int) (c : Nat), Tour0 T n → 1 ≤ c → c < k → T.take (B.length + 1) = B ++ [(c : Int)] → least ≤ longP ws n T)
def BPre (ws : List Int) (n : Nat) (w : World) (bv : Value) (least : Int) : Prop := bv = .slice none 0 0 ∨ ∃ A, Ints w 0 w.heap.size bv A ∧ Tour0 A n ∧ least = longP ws n A
structure BPost (ws : List Int) (n : Nat) (B : List Int) (b0 : Value) (l0 : Int) (w' : World) (v' : Value) (least' : Int) (A : List Int) : Prop where
  own : Ints w' 0 w'.heap.size v' A
  tour : Tour0 A n
  long : least' = longP ws n A
  le : b0 ≠ .slice none 0 0 → least' ≤ l0
  all : ∀ T, Tour0 T n → T.take B.length = B → least' ≤ longP ws n T
theorem BSt.start {ws : List Int} {n : Nat} {B : List Int} {b0 : Value} {l0 : Int} {w : World} (h : BPre ws n w b0 l0) : BSt ws n B b0 l0 w 1 b0 l0 := by
  rcases h with h | ⟨A, h1, h2, h3⟩
  · exact .inl ⟨h, h, fun c h1 h2 => by omega⟩
  · exact .inr ⟨A, h1, h2, h3, fun _ => Int.le_refl _, fun T c _ h1 h2 => by omega⟩
theorem BSt.pre {ws : List Int} {n : Nat} {B : List Int} {b0 bv : Value} {l0 least : Int} {w : World} {k : Nat} (h : BSt ws n B b0 l0 w k bv least) : BPre ws n w bv least := by
  rcases h with ⟨h, _⟩ | ⟨A, h1, h2, h3, _⟩
  · exact .inl h
  · exact .inr ⟨A, h1, h2, h3⟩
theorem BPre.below {ws : List Int} {n : Nat} {w w' : World} {bv : Value} {least : Int} (h : BPre ws n w bv least) (hb : Below w.heap.size w w') : BPre ws n w' bv least := by
  rcases h with h | ⟨A, h1, h2, h3⟩
  · exact .inl h
  · exact .inr ⟨A, (h1.below hb (Nat.le_refl _)).mono (Nat.le_refl _) hb.size (Nat.le_refl _), h2, h3⟩
theorem BSt.skip {ws : List Int} {n : Nat} {B : List Int} {b0 bv : Value} {l0 least : Int} {w : World} {k : Nat} (h : BSt ws n B b0 l0 w k bv least) (hk : (k : Int) ∈ B) : BSt ws n B b0 l0 w (k + 1) bv least := by
  rcases h with ⟨h1, h2, h3⟩ | ⟨A, h1, h2, h3, h4, h5⟩
  · refine .inl ⟨h1, h2, fun c c1 c2 => ?_⟩
    by_cases hc : c = k
    · rw [hc]; exact hk
    · exact h3 c c1 (by omega)
  · refine .inr ⟨A, h1, h2, h3, h4, fun T c hT c1 c2 ht => ?_⟩
    by_cases hc : c = k
    · subst hc
      exfalso
      have hnd : (T.take (B.length + 1)).Nodup := hT.nd.sublist (List.take_sublist _ _)
      rw [ht, List.nodup_append] at hnd
      exact hnd.2.2 _ hk _ (List.mem_singleton.2 rfl) rfl
    · exact h5 T c hT c1 (by omega) ht
theorem ints_ne {A : List Int} {n l h : Nat} {w : World} {v : Value} (hn : 1 ≤ n) (hv : Ints w l h v A) (hA : Tour0 A n) : v ≠ .slice none 0 0 := by
  rintro rfl
  obtain ⟨a, c, e, _⟩ := hv.out
  injection e with _ e2 _
  have := hA.len
  omega
theorem BSt.next {ws : List Int} {n : Nat} (hn : 1 ≤ n) {B : List Int} {b0 bv v' : Value} {l0 least least' : Int} {w w' : World} {k : Nat} {A' : List Int} (h : BSt ws n B b0 l0 w k bv least) (hp : BPost ws n (B ++ [(k : Int)]) bv least w' v' least' A') : BSt ws n B b0 l0 w' (k + 1) v' least' := by
  obtain ⟨p1, p2, p3, p4, p5⟩ := hp
  refine .inr ⟨A', p1, p2, p3, fun hb => ?_, fun T c hT c1 c2 ht => ?_⟩
  · rcases h with ⟨h1, h2, h3⟩ | ⟨A, h1, h2, h3, h4, h5⟩
    · exact absurd h2 hb
    · have := p4 (ints_ne hn h1 h2)
      have := h4 hb
      omega
  · by_cases hc : c = k
    · subst hc
      exact p5 T hT (by rw [List.length_append, List.length_singleton]; exact ht)
    · rcases h with ⟨h1, h2, h3⟩ | ⟨A, h1, h2, h3, h4, h5⟩
      · have := h3 c c1 (by omega)
        exfalso
        have hnd : (T.take (B.length + 1)).Nodup := hT.nd.sublist (List.take_sublist _ _)
        rw [ht, List.nodup_append] at hnd
        exact hnd.2.2 _ this _ (List.mem_singleton.2 rfl) rfl
      · have h6 := h5 T c hT c1 (by omega) ht
        have := p4 (ints_ne hn h1 h2)
        omega
theorem BSt.done {ws : List Int} {n : Nat} {B : List Int} {b0 bv : Value} {l0 least : Int} {w : World} (hB : Beg B n) (hl : B.length < n) (h : BSt ws n B b0 l0 w n bv least) : ∃ A, BPost ws n B b0 l0 w bv least A := by
  obtain ⟨x, r, rfl⟩ : ∃ x r, B = x :: r := by
    cases B with
    | nil => have := hB.pos; simp at this
    | cons x r => exact ⟨x, r, rfl⟩
  have hx : x = 0 := by simpa [List.getD] using hB.hd
  subst hx
  rcases h with ⟨h1, h2, h3⟩ | ⟨A, h1, h2, h3, h4, h5⟩
  · have := pigeon 0 n (0 :: r) (fun k k0 k1 => by
      by_cases hk : k = 0
      · rw [hk]; exact List.mem_cons_self ..
      · have := h3 k.toNat (by omega) (by omega)
        rw [Int.toNat_of_nonneg k0] at this
        exact this)
    omega
  · refine ⟨A, h1, h2, h3, h4, fun T hT ht => ?_⟩
    obtain ⟨b, hb⟩ : ∃ b, b = (0 :: r : List Int).length := ⟨_, rfl⟩
    have hbl : b < T.length := by rw [hT.len, hb]; exact hl
    have ht' : T.take b = 0 :: r := by rw [hb]; exact ht
    have e : T.take (b + 1) = (0 :: r) ++ [T[b]] := by rw [← List.take_append_getElem hbl, ht']
    have hr := hT.rng _ (List.getElem_mem hbl)
    have hnd : (T.take (b + 1)).Nodup := hT.nd.sublist (List.take_sublist _ _)
    rw [e, List.nodup_append] at hnd
    have hne : T[b] ≠ 0 := fun h0 => hnd.2.2 0 (List.mem_cons_self ..) T[b] (List.mem_singleton.2 rfl) h0.symm
    obtain ⟨c, hc⟩ := Int.eq_ofNat_of_zero_le hr.1
    have := h5 T c hT (by omega) (by omega) (by rw [← hb, e, hc])
    exact this
set_option maxHeartbeats 2000000 in
set_option maxRecDepth 100000 in
theorem bestTour_any (m : Nat) : ∀ (w : World) {l h l' h' : Nat} (v u : Value) (ws B : List Int) (n : Nat) (b0 : Value) (l0 : Int), B.length + m = n → Ints w l h v ws → h ≤ w.heap.size → ws.length ≤ 1048576 → citI ws.length = (n : Int) → 1 ≤ n → n ≤ 10 → WaysOk ws n →
    Ints w l' h' u B → h' ≤ w.heap.size → Beg B n → BPre ws n w b0 l0 →
    Calls Try.prog 43 #[v, u, b0, .int .i64 l0] w fun e w' => ∃ v' least' A', e = .returned (.tuple #[v', .int .i64 least']) ∧ BPost ws n B b0 l0 w' v' least' A' ∧ Below w.heap.size w w' := by
  induction m with
  | zero =>
    have qT : ∀ (w : World) (a : Option Addr) (n c n' c' : Nat), (binOp .eql 25 (.slice a n c) (.slice none n' c')).run Try.prog w = .ok (.bool a.isNone) w := fun w a n c n' c' => Lib.run_eql_slice_nil w _ _ a n c n' c' Try.underlying25
    intro w l h l' h' v u ws B n b0 l0 hm hv hh hz hci hn1 hn hw hu hh' hB hp
    have hT := hB.tour (by omega)
    have HC := Lib.hid (cities_any v ws w hv hz)
    rw [hci] at HC
    have HTL := Lib.hid (tourLong_any v u ws B n w hv hu hz hci hn1 hn hw hT.ok)
    obtain ⟨long, hlong⟩ : ∃ x, x = longP ws n B := ⟨_, rfl⟩
    rw [← hlong] at HTL
    have HU := Lib.hid (hu.mono (Nat.zero_le _) hh' (Nat.le_refl _))
    obtain ⟨ua, uc, rfl, gc1, gc2, gd⟩ := hu.out
    have HLT : Hid (∀ T, Tour0 T n → T.take B.length = B → long ≤ longP ws n T) := fun T hT ht => by
      rw [List.take_of_length_le (by rw [hT.len]; omega)] at ht
      rw [ht, hlong]; exact Int.le_refl _
    have hbn : B.length = n := by omega
    have HT := Lib.hid hT
    have HP := Lib.hid hp
    have HBN := Lib.hid hbn
    have HLG := Lib.hid hlong
    rw [hbn]
    rw [hbn] at HTL gc1 HU
    clear hv hu gd hT hp hB hm hbn hlong hci hw
    rcases HP.out with rfl | ⟨A, hA1, hA2, hA3⟩
    · go_enter Try.func43, Try.ntmps43
      go_wp2_with fail
      refine HC.out.mono ?_
      rintro e w' ⟨rfl, rfl⟩
      go_wp2_with (go_at_call 66; refine (size_any _ (by omega) _).mono ?_; rintro e w' ⟨rfl, rfl⟩)
      refine HTL.out.mono ?_
      rintro e w' ⟨rfl, rfl⟩
      go_wp2
      go_ret2
      exact ⟨_, _, B, rfl, ⟨HU.out, HT.out, HLG.out, fun h => absurd rfl h, HLT.out⟩, Below.refl _ _⟩
    · obtain ⟨ba, bc, rfl, bd1, bd2, bd⟩ := hA1.out
      have hal := hA2.len
      rcases bd with bd | ⟨bb, bo, rfl, b1, b2, b3, _⟩
      · rw [bd] at hal; simp at hal; omega
      have HA1 := Lib.hid hA1
      have HA2 := Lib.hid hA2
      have HA3 := Lib.hid hA3
      have HAL := Lib.hid hal
      rw [hal] at bd1 HA1 ⊢
      clear hA1 hA2 hA3 hal HP
      by_cases hlt : long < l0
      · go_enter Try.func43, Try.ntmps43
        go_wp2_with fail
        refine HC.out.mono ?_
        rintro e w' ⟨rfl, rfl⟩
        go_wp2_with (go_at_call 66; refine (size_any _ (by omega) _).mono ?_; rintro e w' ⟨rfl, rfl⟩)
        refine HTL.out.mono ?_
        rintro e w' ⟨rfl, rfl⟩
        go_wp2
        go_ret2
        exact ⟨_, _, B, rfl, ⟨HU.out, HT.out, HLG.out, fun h => by omega, HLT.out⟩, Below.refl _ _⟩
      · go_enter Try.func43, Try.ntmps43
        go_wp2_with fail
        refine HC.out.mono ?_
        rintro e w' ⟨rfl, rfl⟩
        go_wp2_with (go_at_call 66; refine (size_any _ (by omega) _).mono ?_; rintro e w' ⟨rfl, rfl⟩)
        refine HTL.out.mono ?_
        rintro e w' ⟨rfl, rfl⟩
        go_wp2
        go_ret2
        exact ⟨_, _, A, rfl, ⟨HA1.out, HA2.out, HA3.out, fun _ => Int.le_refl _, fun T hT ht => by have := HLT.out T hT ht; omega⟩, Below.refl _ _⟩
  | succ m ih =>
    intro w l h l' h' v u ws B n b0 l0 hm hv hh hz hci hn1 hn hw hu hh' hB hp
    have HC := Lib.hid (cities_any v ws w hv hz)
    rw [hci] at HC
    have HIH : Hid (∀ (u : Value) (D : List Int) (wx : World) (bv : Value) (least : Int), Below w.heap.size w wx → Ints wx 0 wx.heap.size u D → D.length + m = n → Beg D n → BPre ws n wx bv least →
        Calls Try.prog 43 #[v, u, bv, .int .i64 least] wx fun e w' => ∃ v' least' A', e = .returned (.tuple #[v', .int .i64 least']) ∧ BPost ws n D bv least w' v' least' A' ∧ Below wx.heap.size wx w') := fun u D wx bv least hb hD hl hBD hpre =>
      ih wx v u ws D n bv least hl (hv.below hb hh) (Nat.le_trans hh hb.size) hz hci hn1 hn hw hD (Nat.le_refl _) hBD hpre
    have HU := Lib.hid hu
    have HB := Lib.hid hB
    have HST := Lib.hid (BSt.start (B := B) hp)
    obtain ⟨bl, hbl⟩ : ∃ x, x = B.length := ⟨_, rfl⟩
    have HBL := Lib.hid hbl
    rw [← hbl] at hm
    obtain ⟨ua, uc, rfl, gc1, gc2, gd⟩ := hu.out
    rw [← hbl] at HU gc1 ⊢
    have hne1 : ((bl : Int) == (n : Int)) = false := by simp; omega
    have hne2 : (bl == n) = false := by simp; omega
    have hne3 : ¬ bl = n := by omega
    clear ih hv hu gd hp hB hbl hci hw
    go_enter Try.func43, Try.ntmps43
    go_wp2_with fail
    refine HC.out.mono ?_
    rintro e w' ⟨rfl, rfl⟩
    go_wp2_with (go_at_call 66; refine (size_any _ (by omega) _).mono ?_; rintro e w' ⟨rfl, rfl⟩)
    go_loopw [2, 3, 12] (fun bv lv kv wr => ∃ (k : Nat) (least : Int), 1 ≤ k ∧ k ≤ n ∧ kv = .int .i64 k ∧ lv = .int .i64 least ∧ Hid (BSt ws n B b0 l0 wr k bv least) ∧ Hid (Below w.heap.size w wr)) (fun _ _ kv _ => n - (intOf kv).toNat)
    case atStart => exact ⟨1, l0, Nat.le_refl _, hn1, rfl, rfl, HST.out, Below.refl _ _⟩
    case round =>
      obtain ⟨bv, hbv⟩ : ∃ v, v = u2 := ⟨_, rfl⟩
      rw [← hbv] at hrel
      rw [← hbv]
      clear hbv
      obtain ⟨k, least, hk1, hk, rfl, rfl, HS, HBW⟩ := hrel
      have hsw := HBW.out.size
      by_cases hkn : k < n
      · have HH := Lib.hid (has_any _ B (k : Int) wr (HU.out.below HBW.out hh'))
        cases hin : hasI B (k : Int)
        · rw [hin] at HH
          have HNI : Hid ((k : Int) ∉ B) := (hasI_false _ _).1 hin
          have HCP := Lib.hid (copyInts_any _ B wr (HU.out.below HBW.out hh') (by omega) (by rw [← HBL.out]; omega))
          clear hin
          go_wp2_with fail
          refine HH.out.mono ?_
          rintro e w' ⟨rfl, rfl⟩
          go_wp2_with fail
          refine HCP.out.mono ?_
          rintro e w2 ⟨u2', rfl, ho2, hb2⟩
          have HO2 := Lib.hid ho2
          have HB2 := Lib.hid hb2
          have hz2 : wr.heap.size ≤ w2.heap.size := hb2.size
          clear ho2 hb2
          go_wp2_with (at_builtin; refine wpList_app1 rfl _ _ rfl _ B rfl (k : Int) _ HO2.out rfl (by constructor <;> omega) (by rw [← HBL.out]; omega) hz2 ?_)
          intro v3 w3 ho3 hsm3 hz3 hbk3
          have HB3 := Lib.hid ((HB2.out.trans (hsm3.below (Nat.le_refl _) hz2)))
          have HB3w := Lib.hid (HBW.out.trans (HB3.out.mono hsw))
          have hs3 : wr.heap.size ≤ w3.heap.size := HB3.out.size
          have HI3 := Lib.hid (HIH.out v3 (B ++ [(k : Int)]) w3 bv least HB3w.out (ho3.rd.mono (Nat.zero_le _) (Nat.le_refl _) (Nat.le_refl _)) (by rw [List.length_append, List.length_singleton, ← HBL.out]; omega) (HB.out.snoc (by omega) (by omega) HNI.out) (HS.out.pre.below HB3.out))
          clear ho3 hsm3 hz3 hbk3
          go_wp2_with fail
          refine HI3.out.mono ?_
          rintro e w4 ⟨v4, l4, A4, rfl, hp4, hb4⟩
          have HS4 := Lib.hid (HS.out.next hn1 hp4)
          have HB4 := Lib.hid (HB3w.out.trans (hb4.mono (Nat.le_trans hsw hs3)))
          clear hp4 hb4
          go_wp2
          go_roundw
          case rel => exact ⟨k + 1, l4, by omega, by omega, by go_num, rfl, HS4, HB4⟩
          case measure => simp [intOf]; omega
        · rw [hin] at HH
          have HS4 := Lib.hid (HS.out.skip ((hasI_iff _ _).1 hin))
          clear hin
          go_wp2_with fail
          refine HH.out.mono ?_
          rintro e w' ⟨rfl, rfl⟩
          go_wp2
          go_roundw
          case rel => exact ⟨k + 1, least, by omega, by omega, by go_num, rfl, HS4, HBW⟩
          case measure => simp [intOf]; omega
      · obtain rfl : k = n := by omega
        have hdn := HS.out.done HB.out (by rw [← HBL.out]; omega)
        obtain ⟨A, hA⟩ := hdn
        have HA := Lib.hid hA
        clear hA
        go_wp2
        go_ret2
        exact ⟨_, _, A, rfl, HA.out, HBW.out⟩
set_option maxHeartbeats 2000000 in
set_option maxRecDepth 100000 in
theorem implBestTour_any (w : World) {l h : Nat} (v : Value) (ws : List Int) (n : Nat) (hv : Ints w l h v ws) (hh : h ≤ w.heap.size) (hz : ws.length ≤ 1048576) (hc : isCit ws = true) (hn : root ws.length = n) :
    Calls Try.prog 10 #[v] w fun e w' => ∃ v' least A, e = .returned (.tuple #[v', .int .i64 least, .bool true]) ∧ Ints w' 0 w'.heap.size v' A ∧ Tour0 A n ∧ least = longP ws n A ∧ (∀ T, Tour0 T n → least ≤ longP ws n T) ∧ Below w.heap.size w w' := by
  obtain ⟨c1, c2, c3, c4, c5⟩ := isCit_out hc
  rw [hn] at c1 c2 c3 c5
  have HAC := Lib.hid (areCities_any v ws w hv hz)
  rw [hc] at HAC
  have hci : citI ws.length = (n : Int) := by rw [citI, hn, if_neg (by omega)]
  have HIH : Hid (∀ w1 : World, Below w.heap.size w w1 → Calls Try.prog 43 #[v, .slice (some ⟨w1.heap.size, 0, none⟩) 1 1, .slice none 0 0, .int .i64 0] (w1.alloc (.cells #[.int .i64 0] 2)) fun e w' => ∃ v' least' A', e = .returned (.tuple #[v', .int .i64 least']) ∧ BPost ws n [0] (.slice none 0 0) 0 w' v' least' A' ∧ Below (w1.alloc (.cells #[.int .i64 0] 2)).heap.size (w1.alloc (.cells #[.int .i64 0] 2)) w') := fun w1 hb1 => by
    obtain ⟨W, hW⟩ : ∃ X, X = w1.alloc (.cells #[.int .i64 0] 2) := ⟨_, rfl⟩
    have hb : Below w.heap.size w W := by rw [hW]; exact hb1.alloc hb1.size _
    have h0 : Ints W 0 W.heap.size (.slice (some ⟨w1.heap.size, 0, none⟩) 1 1) [0] := by
      refine ⟨⟨some ⟨w1.heap.size, 0, none⟩, 1, rfl, Nat.le_refl _, by decide, .inr ⟨w1.heap.size, 0, rfl, Nat.zero_le _, by rw [hW]; simp, Nat.le_refl _, fun i hi => ?_⟩⟩, by simp [I64]⟩
      have : i = 0 := by simpa using hi
      subst this
      rw [hW]; exact one_new _ _ _
    rw [← hW]
    exact bestTour_any (n - 1) W v _ ws [0] n (.slice none 0 0) 0 (by simp; omega) (hv.below hb hh) (Nat.le_trans hh hb.size) hz hci c1 c2 ⟨c3, c4⟩ h0 (Nat.le_refl _) ⟨by simp, by simp; omega, rfl, by simp⟩ (.inl rfl)
  clear hv c4 hc hci
  go_enter Try.func10, Try.ntmps10
  go_wp2_with fail
  refine HAC.out.mono ?_
  rintro e w1 ⟨rfl, hd1⟩
  have HI := Lib.hid (HIH.out w1 (hd1.below _))
  have HB1 : Hid (Below w.heap.size w (w1.alloc (.cells #[.int .i64 0] 2))) := (hd1.below _).alloc (hd1.below w.heap.size).size _
  obtain ⟨W, hW⟩ : ∃ X, X = w1.alloc (.cells #[.int .i64 0] 2) := ⟨_, rfl⟩
  rw [← hW] at HI HB1
  clear hd1
  go_wp2_with fail
  rw [← hW]
  clear hW
  refine HI.out.mono ?_
  rintro e w2 ⟨v2, l2, A2, rfl, hp2, hb2⟩
  have HP2 := Lib.hid hp2
  have HB2 := Lib.hid (HB1.out.trans (hb2.mono HB1.out.size))
  clear hp2 hb2
  go_wp2
  go_ret3
  exact ⟨_, _, A2, rfl, HP2.out.own, HP2.out.tour, HP2.out.long, fun T hT => HP2.out.all T hT (by
    have h1 := hT.len
    have h2 := hT.hd
    cases T with
    | nil => simp at h1; omega
    | cons x r => simp [List.getD] at h2; simp [h2]), HB2.out⟩
end Go.Proofs.Ytkankfdpodofjaa
