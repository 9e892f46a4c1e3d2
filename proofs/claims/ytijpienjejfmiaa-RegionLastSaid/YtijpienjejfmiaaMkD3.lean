/-
  Marks' Edit: the walk. No conditions beyond those that the law names.
-/
import Derived.Test.YtijpienjejfmiaaMkD2
namespace Go.Proofs.Ytijpienjejfmiaa
open Go Go.RowKit

theorem EdAt.slice {mb tb0 tb1 : Nat} {B : List Nat} {L0 L1 X : List Sp} {v : Value} {w wk : World} (h : EdAt mb tb0 tb1 B L0 L1 v X w wk) : ∃ A c, v = .slice A X.length c ∧ Sl wk 3 A X.length (rowS X) := by
  obtain ⟨B', h1, h2, h3, h4, h5⟩ := h
  exact own_slice h4

theorem kind_tailS {f d r : Int} {l : List Sp} (h : ∀ x ∈ l, x.k % 2 = r) : ∀ x ∈ tailS f d l, x.k % 2 = r := fun x hx => by
  obtain ⟨y, hy, rfl⟩ := List.mem_map.1 hx
  have := h y hy
  split
  · exact this
  · exact this
theorem kind_remL {X : List Sp} {r : Int} {l : List Sp} (h : ∀ x ∈ l, x.k % 2 = r) : ∀ x ∈ remL X l, x.k % 2 = r := fun x hx => h x (mem_remL.1 hx).1
theorem kind_overS {f t r : Int} {l : List Sp} (h : ∀ x ∈ l, x.k % 2 = r) : ∀ x ∈ overS f t l, x.k % 2 = r := fun x hx => h x (mem_overS.1 hx).1

theorem kind_clipL {A D I r : Int} : ∀ (X l : List Sp), (∀ x ∈ X, x.k % 2 = r) → (∀ x ∈ l, x.k % 2 = r) → ∀ x ∈ clipL A D I X l, x.k % 2 = r
  | [], _, _, h => h
  | s :: X, l, hX, h => kind_clipL X _ (fun x hx => hX x (List.mem_cons_of_mem _ hx)) (fun x hx => by
      dsimp only at hx
      split at hx
      · rename_i hok
        rcases mem_insS.1 hx with rfl | hx
        · have hk : (clipI A D I s).1.k = s.k := by
            unfold clipI at hok ⊢
            split
            · rename_i hle; rw [if_pos hle] at hok; cases hok
            · rfl
          rw [hk]
          exact hX s (by simp)
        · exact h x hx
      · exact h x hx)

theorem evenB_length (A D I : Int) {L0 : List Sp} (m0 : L0.length ≤ 274877906944) : (evenB A D I L0).length ≤ 274877906944 := by
  unfold evenB evenA
  rw [tailS_length]
  exact Nat.le_trans (remL_length _ _) m0

theorem meas {n j : Nat} (h : j < n) : n - (RowKit.intOf (Value.int .i64 ((j : Int) + 1))).toNat < n - (RowKit.intOf (Value.int .i64 (j : Int))).toNat := by
  simp [RowKit.intOf]
  omega

theorem clip_len (A D I : Int) {X Lb : List Sp} (j : Nat) (h : Lb.length ≤ 274877906944) (hX : X.length ≤ 274877906944) : (clipL A D I (X.take j) Lb).length < 1099511627776 := by
  have h1 := clipL_length A D I (X.take j) Lb
  rw [List.length_take] at h1
  omega

/-- The loop over what was cut. -/
def ClipRel (mb tb0 tb1 : Nat) (B : List Nat) (A D I : Int) (Lb L1 : List Sp) (v : Value) (X : List Sp) (w : World) (iv : Value) (wr : World) : Prop :=
  ∃ j : Nat, j ≤ X.length ∧ iv = .int .i64 (j : Int) ∧ EdAt mb tb0 tb1 B (clipL A D I (X.take j) Lb) L1 v X w wr

/-- The loop over the two trees: what is too far goes. -/
def FarRel (mb tb0 tb1 : Nat) (B : List Nat) (L0 L1 : List Sp) (w : World) (iv : Value) (wr : World) : Prop :=
  ∃ i : Nat, i ≤ 2 ∧ iv = .int .i64 (i : Int) ∧ ∃ v X, EdAt mb tb0 tb1 B (if i = 0 then L0 else remL (farL L0) L0) (if i = 2 then remL (farL L1) L1 else L1) v X w wr

set_option maxRecDepth 100000 in
set_option maxHeartbeats 1000000 in
theorem edit_walk {mb : Nat} {B : List Nat} {L0 L1 : List Sp} (a d i : Int) (w : World) (h : Mk w mb B L0 L1) (k0 : ∀ x ∈ L0, x.k % 2 = 0) (k1 : ∀ x ∈ L1, x.k % 2 = 1) (g0 : ∀ x ∈ L0, InG x) (g1 : ∀ x ∈ L1, InG x) (m0 : L0.length ≤ 274877906944) (m1 : L1.length ≤ 274877906944) :
    Calls Try.prog 35 #[.pointer (some ⟨mb, 0, none⟩), .int .i64 a, .int .i64 d, .int .i64 i] w fun e w' => e = .returned (.tuple #[]) ∧ MkRes mb B (evenE (cutI a) (cutI d) (cutI i) L0) (oddE (cutI a) (cutI d) (cutI i) L1) w w' := by
  have o0 := h.good0.1
  have o1 := h.good1.1
  have hAb := cutI_le a
  have hDb := cutI_le d
  have hIb := cutI_le i
  have hmin : ∀ (v : Int) (ts : Array TypeId) (ty : TypeId) (w : World), (Builtin.min_ ts ty #[.int .i64 v, .int .i64 1099511627776]).run Try.prog w = .ok (.int .i64 (min v 1099511627776)) w := by
    intro v ts ty w
    rw [run_min_int2]; congr 2; split <;> omega
  have hmax : ∀ (v : Int) (ts : Array TypeId) (ty : TypeId) (w : World), (Builtin.max_ ts ty #[.int .i64 0, .int .i64 (min v 1099511627776)]).run Try.prog w = .ok (.int .i64 (cutI v)) w := by
    intro v ts ty w
    rw [run_max_int2]; congr 2; unfold cutI; split <;> omega
  have hcA : cutI (cutI a) = cutI a := by unfold cutI; omega
  have hcD : cutI (cutI d) = cutI d := by unfold cutI; omega
  have hcI : cutI (cutI i) = cutI i := by unfold cutI; omega
  have hmn := fun ts ty w => hmin a ts ty w
  have hmn2 := fun ts ty w => hmin d ts ty w
  have hmn3 := fun ts ty w => hmin i ts ty w
  have hmx := fun ts ty w => hmax a ts ty w
  have hmx2 := fun ts ty w => hmax d ts ty w
  have hmx3 := fun ts ty w => hmax i ts ty w
  clear hmin hmax
  generalize min a 1099511627776 = na at *
  generalize min d 1099511627776 = nd at *
  generalize min i 1099511627776 = ni at *
  generalize cutI a = A at *
  generalize cutI d = D at *
  generalize cutI i = I at *
  obtain ⟨tb0, tb1, hT⟩ := h
  change MkT w mb tb0 tb1 B L0 L1 at hT
  obtain ⟨st, hm⟩ := hT.cells
  have c2 := cell_of_heap hm 2
  have f2 := frozen_of_heap hm 2
  have hE0 := EdAt.start hT 0
  have HE0 := Lib.hid hE0
  obtain ⟨st1, hm1⟩ := hE0.cells
  have e1 := cell_of_heap hm1 1
  obtain ⟨rv1, hrv1, hc1⟩ := hE0.over1 (A + D) A (by omega)
  have r1 := cell_of_heap hrv1 0
  have hw1 : IntKind.i64.wrap (A + D) = A + D := wrap_fit (by omega)
  have hw2 : IntKind.i64.wrap (A + D + 1) = A + D + 1 := wrap_fit (by omega)
  have hw3 : IntKind.i64.wrap (I - D) = I - D := wrap_fit (by omega)
  have hw4 : IntKind.i64.wrap (A + D - 1) = A + D - 1 := wrap_fit (by omega)
  have hw5 : IntKind.i64.wrap (A + 1) = A + 1 := wrap_fit (by omega)
  obtain ⟨M1, hM1e⟩ : ∃ m, max A (A + D - 1) = m := ⟨_, rfl⟩
  obtain ⟨M2, hM2e⟩ : ∃ m, max (A + 1) (A + D) = m := ⟨_, rfl⟩
  have hM1 : ∀ (ts : Array TypeId) (ty : TypeId) (w : World), (Builtin.max_ ts ty #[.int .i64 A, .int .i64 (A + D - 1)]).run Try.prog w = .ok (.int .i64 M1) w := by
    intro ts ty w
    rw [run_max_int2]; congr 2; rw [← hM1e]; split <;> omega
  have hM2 : ∀ (ts : Array TypeId) (ty : TypeId) (w : World), (Builtin.max_ ts ty #[.int .i64 (A + 1), .int .i64 (A + D)]).run Try.prog w = .ok (.int .i64 M2) w := by
    intro ts ty w
    rw [run_max_int2]; congr 2; rw [← hM2e]; split <;> omega
  have hXe : overS M1 (A + 1) L0 = evenX A D L0 := by rw [← hM1e]; rfl
  have hBe : tailS M2 (I - D) (evenA A D L0) = evenB A D I L0 := by rw [← hM2e]; rfl
  have HXE := Lib.hid hXe
  have HBE := Lib.hid hBe
  clear hXe hBe hM1e hM2e
  have HC1 := Lib.hid hc1
  have hs0 := tree0 (.pointer (some ⟨tb0, 0, none⟩)) (.pointer (some ⟨tb1, 0, none⟩))
  have hs1 := tree1 (.pointer (some ⟨tb0, 0, none⟩)) (.pointer (some ⟨tb1, 0, none⟩))
  have HT := Lib.hid hT
  clear hE0 hm1 hrv1 hc1 hm hT
  go_enter Try.func35, Try.ntmps35
  go_wp2_with fail
  refine HC1.out.mono ?_
  rintro e w1 ⟨v1, rfl, hE1⟩
  have hX1 : (overS (A + D) A L1).length ≤ 1099511627776 := by have := overS_length (A + D) A L1; omega
  have hc2 := hE1.less1 (kind_overS k1) hX1
  have HC2 := Lib.hid hc2
  clear hE1 hc2 e1 r1 c2 f2
  go_wp2_with fail
  refine HC2.out.mono ?_
  rintro e w2 ⟨rfl, hE2⟩
  change EdAt mb tb0 tb1 B L0 (oddA A D L1) v1 _ w w2 at hE2
  have hod := odd_tail (A := A) (D := D) (I := I) hAb hDb hIb o1 g1
  obtain ⟨rv2, hrv2, hc3⟩ := hE2.tail1 (A + D + 1) (I - D) (by omega) hod.1 hod.2
  have r2 := cell_of_heap hrv2 0
  have HC3 := Lib.hid hc3
  clear hE2 hrv2 hc3 hod hX1
  go_wp2_with fail
  refine HC3.out.mono ?_
  rintro e w3 ⟨rfl, hE3⟩
  change EdAt mb tb0 tb1 B L0 (oddB A D I L1) v1 _ w w3 at hE3
  obtain ⟨st3, hm3⟩ := hE3.cells
  have e3 := cell_of_heap hm3 0
  obtain ⟨rv4, hrv4, hc4⟩ := hE3.over0 M1 (A + 1) (by omega)
  have r4 := cell_of_heap hrv4 0
  have HC4 := Lib.hid hc4
  clear hE3 hm3 hrv4 hc4 r2
  go_wp2_with fail
  refine HC4.out.mono ?_
  rintro e w4 ⟨v9, rfl, hE4⟩
  rw [HXE.out] at hE4
  obtain ⟨XA, xc, hv9, _⟩ := hE4.slice
  subst hv9
  have hX4 : (evenX A D L0).length ≤ 274877906944 := by have := overS_length (max A (A + D - 1)) (A + 1) L0; unfold evenX; omega
  have hkX : ∀ x ∈ evenX A D L0, x.k % 2 = 0 := kind_overS k0
  have hc5 := hE4.less0 hkX (by omega)
  have HC5 := Lib.hid hc5
  clear hE4 hc5 e3 r4
  go_wp2_with fail
  refine HC5.out.mono ?_
  rintro e w5 ⟨rfl, hE5⟩
  change EdAt mb tb0 tb1 B (evenA A D L0) (oddB A D I L1) _ (evenX A D L0) w w5 at hE5
  have hev := even_tail (A := A) (D := D) (I := I) hAb hDb hIb o0 g0
  obtain ⟨rv6, hrv6, hc6⟩ := hE5.tail0 M2 (I - D) (by omega) (by rw [HBE.out]; exact hev.1) (by rw [HBE.out]; exact hev.2)
  have r6 := cell_of_heap hrv6 0
  have HC6 := Lib.hid hc6
  clear hE5 hrv6 hc6 hev
  go_wp2_with fail
  refine HC6.out.mono ?_
  rintro e w6 ⟨rfl, hE6⟩
  rw [HBE.out] at hE6
  have HE6 := Lib.hid hE6
  clear hE6 r6
  have hlB := evenB_length A D I m0
  generalize hX : evenX A D L0 = X at *
  go_wp2_with fail
  go_loopw [97] (fun iv wr => ClipRel mb tb0 tb1 B A D I (evenB A D I L0) (oddB A D I L1) (.slice XA X.length xc) X w iv wr) (fun iv _ => X.length - (RowKit.intOf iv).toNat)
  case atStart => exact ⟨0, Nat.zero_le _, rfl, HE6.out⟩
  case round =>
    obtain ⟨j, hj, rfl, hE⟩ := hrel
    have HE := Lib.hid hE
    rcases Nat.lt_or_ge j X.length with hlt | hge
    · obtain ⟨XA', xc', hv', hsl⟩ := hE.slice
      cases hv'
      obtain ⟨r1, r2, r3⟩ := rowS_at X j hlt
      obtain ⟨b, o, rfl, hc⟩ := hsl.2.2 (by omega)
      have hc0 := hc (j * 3) _ r1
      have hc1 := hc (j * 3 + 1) _ r2
      have hc2 := hc (j * 3 + 2) _ r3
      rw [← Nat.add_assoc] at hc1 hc2
      have hw6 : IntKind.i64.wrap ((j : Int) + 1) = (j : Int) + 1 := wrap_fit (by omega)
      have hw7 : wrap64 ((j : Int) + 1) = (j : Int) + 1 := by unfold wrap64; omega
      have hkj : X[j].k % 2 = 0 := hkX _ (List.getElem_mem hlt)
      clear hE hsl hc r1 r2 r3
      go_upto_region 12 with (fail)
      have hA := heap_new wr (Obj.cells #[Value.int IntKind.i64 X[j].a, Value.int IntKind.i64 X[j].b, Value.int IntKind.i64 X[j].k] 25)
      have a0 := cell_of_heap hA 0
      have a1 := cell_of_heap hA 1
      have a2 := cell_of_heap hA 2
      have hE2 := HE.out.kept (grownBy_alloc (grownBy_refl wr none) (Obj.cells #[Value.int IntKind.i64 X[j].a, Value.int IntKind.i64 X[j].b, Value.int IntKind.i64 X[j].k] 25))
      have HE2 := Lib.hid hE2
      clear hA hE2 hc0 hc1 hc2
      generalize wr.alloc (Obj.cells #[Value.int IntKind.i64 X[j].a, Value.int IntKind.i64 X[j].b, Value.int IntKind.i64 X[j].k] 25) = w7 at *
      go_wp2_with fail
      refine (clip_walk A D I X[j] w7).mono ?_
      rintro e w8 ⟨rfl, hg8⟩
      rw [hcA, hcD, hcI]
      have HE8 := Lib.hid (HE2.out.kept hg8)
      have hci := clip_in (A := A) (D := D) (I := I) (s := X[j]) hAb hDb hIb
      have hct := clipL_take (A := A) (D := D) (I := I) hlt (evenB A D I L0)
      have hlen8 := clip_len A D I (X := X) j hlB hX4
      generalize hcc : clipI A D I X[j] = cc at *
      obtain ⟨c, ok⟩ := cc
      have HCI := Lib.hid hci
      have HCT := Lib.hid hct
      have hE9 := HE8.out.kept (grownBy_alloc (grownBy_refl w8 none) (Obj.cells #[Value.int IntKind.i64 c.a, Value.int IntKind.i64 c.b, Value.int IntKind.i64 c.k] 25))
      have HE9 := Lib.hid hE9
      have hA9 := heap_new w8 (Obj.cells #[Value.int IntKind.i64 c.a, Value.int IntKind.i64 c.b, Value.int IntKind.i64 c.k] 25)
      have b0 := cell_of_heap hA9 0
      have b1 := cell_of_heap hA9 1
      have b2 := cell_of_heap hA9 2
      clear hg8 hci hct hcc a0 a1 a2 hE9 hA9
      cases ok with
      | false =>
        have hct := HCT.out
        rw [if_neg (by simp)] at hct
        have HCF := Lib.hid hct
        clear hct
        go_wp2_with fail
        go_roundw
        case rel => exact ⟨j + 1, hlt, by simp, by rw [HCF.out]; exact HE9.out⟩
        case measure => exact meas hlt
      | true =>
        have hin := HCI.out rfl
        have hcp := HE9.out.put0 c hin.1 (by rw [hin.2]; exact hkj) hlen8
        have HCP := Lib.hid hcp
        clear hcp hin
        have hct := HCT.out
        rw [if_pos rfl] at hct
        have HCF := Lib.hid hct
        clear hct
        go_wp2_with fail
        refine HCP.out.mono ?_
        rintro e w9 ⟨⟨bb, rfl⟩, hE10⟩
        have HE10 := Lib.hid hE10
        clear hE10
        go_wp2_with fail
        go_roundw
        case rel => exact ⟨j + 1, hlt, by simp, by rw [HCF.out]; exact HE10.out⟩
        case measure => exact meas hlt
    · have hj' : j = X.length := Nat.le_antisymm hj hge
      subst hj'
      have hC : clipL A D I X (evenB A D I L0) = evenC A D I L0 := by rw [← hX]; rfl
      have hkE : ∀ x ∈ evenC A D I L0, x.k % 2 = 0 := by rw [← hC]; exact kind_clipL X _ hkX (kind_tailS (kind_remL k0))
      have hlE : (evenC A D I L0).length ≤ 1099511627776 := by
        have := clip_len A D I (X := X) X.length hlB hX4
        rw [List.take_length, hC] at this
        exact Nat.le_of_lt this
      have hkO : ∀ x ∈ oddB A D I L1, x.k % 2 = 1 := kind_tailS (kind_remL k1)
      have hlO : (oddB A D I L1).length ≤ 1099511627776 := by
        unfold oddB oddA
        rw [tailS_length]
        exact Nat.le_trans (remL_length _ _) (Nat.le_trans m1 (by decide))
      have hE2 := HE.out
      rw [List.take_length, hC] at hE2
      have hfin1 : remL (farL (evenC A D I L0)) (evenC A D I L0) = evenE A D I L0 := rfl
      have hfin2 : remL (farL (oddB A D I L1)) (oddB A D I L1) = oddE A D I L1 := rfl
      have HF1 := Lib.hid hfin1
      have HF2 := Lib.hid hfin2
      clear hE hC HE HE6 hfin1 hfin2
      generalize evenC A D I L0 = E at *
      generalize oddB A D I L1 = O at *
      obtain ⟨st7, hm7⟩ := hE2.cells
      have c0 := cell_of_heap hm7 0
      have c1 := cell_of_heap hm7 1
      have HE2 := Lib.hid hE2
      clear hE2 hm7
      go_wp2_with fail
      go_loopw [118] (fun iv wr => FarRel mb tb0 tb1 B E O w iv wr) (fun iv _ => 2 - (RowKit.intOf iv).toNat)
      case atStart => exact ⟨0, by decide, rfl, _, _, HE2.out⟩
      case round =>
        obtain ⟨q, hq, rfl, v, Y, hE⟩ := hrel
        rcases (show q = 0 ∨ q = 1 ∨ q = 2 by clear hX hlB hX4 m0 m1 hAb hDb hIb; omega) with rfl | rfl | rfl
        · rw [if_pos rfl, if_neg (by decide)] at hE
          obtain ⟨rv, hrv, hc⟩ := hE.over0 9223372036854775807 1099511627777 (by decide)
          have r0 := cell_of_heap hrv 0
          have HC := Lib.hid hc
          clear hE hrv hc
          go_wp2_with fail
          refine HC.out.mono ?_
          rintro e w8 ⟨v8, rfl, hE8⟩
          have hc8 := hE8.less0 (kind_overS hkE) (Nat.le_trans (overS_length _ _ _) hlE)
          have HC8 := Lib.hid hc8
          clear hE8 hc8 r0
          go_wp2_with fail
          refine HC8.out.mono ?_
          rintro e w9 ⟨rfl, hE9⟩
          have HE9 := Lib.hid hE9
          clear hE9
          go_wp2_with fail
          go_roundw
          case rel => exact ⟨1, by decide, by first | rfl | go_num, v8, _, by rw [if_neg (by decide), if_neg (by decide)]; exact HE9.out⟩
          case measure => simp [RowKit.intOf]
        · rw [if_neg (by decide), if_neg (by decide)] at hE
          obtain ⟨rv, hrv, hc⟩ := hE.over1 9223372036854775807 1099511627777 (by decide)
          have r0 := cell_of_heap hrv 0
          have HC := Lib.hid hc
          clear hE hrv hc
          go_wp2_with fail
          refine HC.out.mono ?_
          rintro e w8 ⟨v8, rfl, hE8⟩
          have hc8 := hE8.less1 (kind_overS hkO) (Nat.le_trans (overS_length _ _ _) hlO)
          have HC8 := Lib.hid hc8
          clear hE8 hc8 r0
          go_wp2_with fail
          refine HC8.out.mono ?_
          rintro e w9 ⟨rfl, hE9⟩
          have HE9 := Lib.hid hE9
          clear hE9
          go_wp2_with fail
          go_roundw
          case rel => exact ⟨2, by decide, by first | rfl | go_num, v8, _, by rw [if_neg (by decide), if_pos rfl]; exact HE9.out⟩
          case measure => simp [RowKit.intOf]
        · rw [if_neg (by decide), if_pos rfl] at hE
          rw [HF1.out, HF2.out] at hE
          have HR := Lib.hid hE.res
          clear hE
          go_wp2_with fail
          go_end0
          exact ⟨rfl, HR.out⟩
end Go.Proofs.Ytijpienjejfmiaa
