/-
  ref01.one: the unit that begins at a place of a text: the walk, class by class of first bytes. Conditions: the place lies within the text, and that is of at most a million bytes.
-/
import Derived.Test.YtdcdhcgfhapbnaaDoorRefOneP
import Derived.Test.YtdcdhcgfhapbnaaDoorDawgR
import Derived.Test.YtdcdhcgfhapbnaaDoorUtf
namespace Go.Proofs.YtdcdhcgfhapbnaaDoor
open Go Go.RowKit Go.Lib

theorem laid2 (w : World) (o1 o2 : Obj) : w.grownBy ((w.alloc o1).alloc o2) none ∧ ((w.alloc o1).alloc o2).heap[w.heap.size]? = some o1 :=
  ⟨grownBy_trans (World.grownBy_alloc w o1 none) (World.grownBy_alloc _ o2 none) nofun, grownBy_heap (World.grownBy_alloc (w.alloc o1) o2 none) (heap_alloc_new w o1) nofun⟩

set_option maxRecDepth 100000 in
set_option maxHeartbeats 4000000 in
theorem one_ascii (s : Wd) (i : Nat) (w : World) (hi : i < s.length) (hl : s.length ≤ 1000000) (hb : ((s.drop i).getD 0 0).toNat < 128) :
    Calls Tryd.prog 82 #[.string ⟨s.toArray⟩, .int .i64 i] w (OneRes (s.drop i) i w) := by
  have hsz := size_wd s
  have hi2 : (i : Int) < (s.length : Int) := by omega
  have hx0 := drop_get 0 (s := s) (i := i) (by omega)
  rw [Nat.add_zero] at hx0
  have hxk := fun k h => drop_get (s := s) (i := i) k h
  have htl : (s.drop i).length = s.length - i := List.length_drop
  obtain ⟨t, ht⟩ : ∃ t, s.drop i = t := ⟨_, rfl⟩
  obtain ⟨L, hL⟩ : ∃ L, s.length = L := ⟨_, rfl⟩
  obtain ⟨b0, hb0⟩ : ∃ b0, t.getD 0 0 = b0 := ⟨_, rfl⟩
  rw [ht] at hb
  rw [hb0] at hb
  rw [ht, hb0] at hx0
  rw [ht] at htl hxk
  rw [hL] at htl hsz hi hi2 hl hxk
  rw [ht]
  have HT := Lib.hid ht
  have HL := Lib.hid hL
  have HB0 := Lib.hid hb0
  have HTL := Lib.hid htl
  have HXK := Lib.hid hxk
  clear ht hL hb0 htl hxk
  have hbl := UInt8.toNat_lt b0
  have hwc : wrap64 (b0.toNat : Int) = (b0.toNat : Int) := IntWalk.wrap64_in _ (by omega)
  have c1 : (b0.toNat : Int) < 128 := by omega
  have HG := Lib.hid (one_good (t := t) (c := b0.toNat) (l := 1) (by rw [HB0.out]; exact .inl ⟨rfl, hb, rfl⟩))
  go_enter Tryd.func82, Tryd.ntmps82
  go_wp2_with fail
  refine bodyPost_ret (results_cell1 rfl rfl (load_unit (laid2 _ _ _).2)) rfl ?_
  exact ⟨by rw [HG.out.1, HG.out.2]; rfl, (laid2 _ _ _).1⟩

set_option maxRecDepth 100000 in
set_option maxHeartbeats 4000000 in
theorem one_low (s : Wd) (i : Nat) (w : World) (hi : i < s.length) (hl : s.length ≤ 1000000) (hb : 128 ≤ ((s.drop i).getD 0 0).toNat ∧ ((s.drop i).getD 0 0).toNat < 194) :
    Calls Tryd.prog 82 #[.string ⟨s.toArray⟩, .int .i64 i] w (OneRes (s.drop i) i w) := by
  have hsz := size_wd s
  have hi2 : (i : Int) < (s.length : Int) := by omega
  have hx0 := drop_get 0 (s := s) (i := i) (by omega)
  rw [Nat.add_zero] at hx0
  have hxk := fun k h => drop_get (s := s) (i := i) k h
  have htl : (s.drop i).length = s.length - i := List.length_drop
  obtain ⟨t, ht⟩ : ∃ t, s.drop i = t := ⟨_, rfl⟩
  obtain ⟨L, hL⟩ : ∃ L, s.length = L := ⟨_, rfl⟩
  obtain ⟨b0, hb0⟩ : ∃ b0, t.getD 0 0 = b0 := ⟨_, rfl⟩
  rw [ht] at hb
  rw [hb0] at hb
  rw [ht, hb0] at hx0
  rw [ht] at htl hxk
  rw [hL] at htl hsz hi hi2 hl hxk
  rw [ht]
  have HT := Lib.hid ht
  have HL := Lib.hid hL
  have HB0 := Lib.hid hb0
  have HTL := Lib.hid htl
  have HXK := Lib.hid hxk
  clear ht hL hb0 htl hxk
  have hbl := UInt8.toNat_lt b0
  have hwc : wrap64 (b0.toNat : Int) = (b0.toNat : Int) := IntWalk.wrap64_in _ (by omega)
  have c1 : (128 : Int) ≤ b0.toNat := by omega
  have c2 : (b0.toNat : Int) < 194 := by omega
  have c3 : (b0.toNat : Int) < 224 := by omega
  have c4 : (b0.toNat : Int) < 240 := by omega
  have HG := Lib.hid (one_bad (t := t) (by rw [HB0.out]; intro c l h; unfold Dec at h; omega))
  rw [HB0.out] at HG
  go_enter Tryd.func82, Tryd.ntmps82
  go_wp2_with fail
  refine bodyPost_ret (results_cell1 rfl rfl (load_unit (laid2 _ _ _).2)) rfl ?_
  exact ⟨by rw [HG.out.1, HG.out.2]; rfl, (laid2 _ _ _).1⟩

set_option maxRecDepth 100000 in
set_option maxHeartbeats 4000000 in
theorem one_high (s : Wd) (i : Nat) (w : World) (hi : i < s.length) (hl : s.length ≤ 1000000) (hb : 244 < ((s.drop i).getD 0 0).toNat) :
    Calls Tryd.prog 82 #[.string ⟨s.toArray⟩, .int .i64 i] w (OneRes (s.drop i) i w) := by
  have hsz := size_wd s
  have hi2 : (i : Int) < (s.length : Int) := by omega
  have hx0 := drop_get 0 (s := s) (i := i) (by omega)
  rw [Nat.add_zero] at hx0
  have hxk := fun k h => drop_get (s := s) (i := i) k h
  have htl : (s.drop i).length = s.length - i := List.length_drop
  obtain ⟨t, ht⟩ : ∃ t, s.drop i = t := ⟨_, rfl⟩
  obtain ⟨L, hL⟩ : ∃ L, s.length = L := ⟨_, rfl⟩
  obtain ⟨b0, hb0⟩ : ∃ b0, t.getD 0 0 = b0 := ⟨_, rfl⟩
  rw [ht] at hb
  rw [hb0] at hb
  rw [ht, hb0] at hx0
  rw [ht] at htl hxk
  rw [hL] at htl hsz hi hi2 hl hxk
  rw [ht]
  have HT := Lib.hid ht
  have HL := Lib.hid hL
  have HB0 := Lib.hid hb0
  have HTL := Lib.hid htl
  have HXK := Lib.hid hxk
  clear ht hL hb0 htl hxk
  have hbl := UInt8.toNat_lt b0
  have hwc : wrap64 (b0.toNat : Int) = (b0.toNat : Int) := IntWalk.wrap64_in _ (by omega)
  have c1 : (128 : Int) ≤ b0.toNat := by omega
  have c2 : (194 : Int) ≤ b0.toNat := by omega
  have c3 : (224 : Int) ≤ b0.toNat := by omega
  have c4 : (240 : Int) ≤ b0.toNat := by omega
  have d2 : (223 : Int) < b0.toNat := by omega
  have d3 : (239 : Int) < b0.toNat := by omega
  have d4 : (244 : Int) < b0.toNat := by omega
  have HG := Lib.hid (one_bad (t := t) (by rw [HB0.out]; intro c l h; unfold Dec at h; omega))
  rw [HB0.out] at HG
  go_enter Tryd.func82, Tryd.ntmps82
  go_wp2_with fail
  refine bodyPost_ret (results_cell1 rfl rfl (load_unit (laid2 _ _ _).2)) rfl ?_
  exact ⟨by rw [HG.out.1, HG.out.2]; rfl, (laid2 _ _ _).1⟩

set_option maxRecDepth 100000 in
set_option maxHeartbeats 4000000 in
theorem one_2 (s : Wd) (i : Nat) (w : World) (hi : i < s.length) (hl : s.length ≤ 1000000) (hb : 194 ≤ ((s.drop i).getD 0 0).toNat ∧ ((s.drop i).getD 0 0).toNat ≤ 223) :
    Calls Tryd.prog 82 #[.string ⟨s.toArray⟩, .int .i64 i] w (OneRes (s.drop i) i w) := by
  have hsz := size_wd s
  have hi2 : (i : Int) < (s.length : Int) := by omega
  have hx0 := drop_get 0 (s := s) (i := i) (by omega)
  rw [Nat.add_zero] at hx0
  have hxk := fun k h => drop_get (s := s) (i := i) k h
  have htl : (s.drop i).length = s.length - i := List.length_drop
  obtain ⟨t, ht⟩ : ∃ t, s.drop i = t := ⟨_, rfl⟩
  obtain ⟨L, hL⟩ : ∃ L, s.length = L := ⟨_, rfl⟩
  obtain ⟨b0, hb0⟩ : ∃ b0, t.getD 0 0 = b0 := ⟨_, rfl⟩
  rw [ht] at hb
  rw [hb0] at hb
  rw [ht, hb0] at hx0
  rw [ht] at htl hxk
  rw [hL] at htl hsz hi hi2 hl hxk
  rw [ht]
  have HT := Lib.hid ht
  have HL := Lib.hid hL
  have HB0 := Lib.hid hb0
  have HTL := Lib.hid htl
  have HXK := Lib.hid hxk
  clear ht hL hb0 htl hxk
  have hbl := UInt8.toNat_lt b0
  have hwc : wrap64 (b0.toNat : Int) = (b0.toNat : Int) := IntWalk.wrap64_in _ (by omega)
  have c1 : (128 : Int) ≤ b0.toNat := by omega
  have p2 : (194 : Int) ≤ b0.toNat := by omega
  have q2 : (b0.toNat : Int) ≤ 223 := by omega
  have hand := and31 b0.toNat (List.mem_range.2 (by omega))
  have HBB := Lib.hid hb
  clear hb
  obtain ⟨v1, hv1⟩ : ∃ v1, b0.toNat % 32 = v1 := ⟨_, rfl⟩
  rw [hv1] at hand
  have hv32 : v1 < 32 := by omega
  have HV1 := Lib.hid hv1
  clear hv1
  have hwi : IntKind.i64.wrap ((i : Int) + 2) = (i : Int) + 2 := by rw [IntKind.wrap_i64]; omega
  rcases Nat.lt_or_ge L (i + 2) with hshort | hlong
  · have hsi : (L : Int) < (i : Int) + 2 := by omega
    have HG := Lib.hid (one_bad (t := t) (by rw [HB0.out]; intro c l h; have := HBB.out; have := HTL.out; unfold Dec at h; omega))
    rw [HB0.out] at HG
    go_enter Tryd.func82, Tryd.ntmps82
    go_wp2_with fail
    refine bodyPost_ret (results_cell1 rfl rfl (load_unit (laid2 _ _ _).2)) rfl ?_
    exact ⟨by rw [HG.out.1, HG.out.2]; rfl, (laid2 _ _ _).1⟩
  · have hsi : (i : Int) + 2 ≤ (L : Int) := by omega
    go_enter Tryd.func82, Tryd.ntmps82
    go_wp2_with fail
    go_loopw [8, 9] (fun vv kv wr => ∃ k : Nat, 1 ≤ k ∧ k ≤ 2 ∧ kv = .int .i64 (k : Int) ∧ vv = .int .i64 (valU v1 t (k - 1) : Nat) ∧ (∀ j, 1 ≤ j → j < k → (t.getD j 0).toNat / 64 = 2) ∧
      wr = (w.alloc (.cells #[.int .i64 0, .int .i64 0, .int .i64 0] 96)).alloc (.cells #[.int .i64 (i : Int), .int .i64 1, .int .i64 (-1 - (b0.toNat : Int))] 96)) (fun _ kv _ => 2 - (intOf kv).toNat)
    case atStart => exact ⟨1, Nat.le_refl _, by decide, rfl, rfl, fun j h1 h2 => absurd h1 (by omega), rfl⟩
    case round =>
      obtain ⟨k, hk1, hk2, rfl, rfl, hcont, rfl⟩ := hrel
      have HCN := Lib.hid hcont
      clear hcont
      rcases Nat.lt_or_ge k 2 with hlt | hge
      · have hki : (k : Int) < 2 := by omega
        have hik : (i : Int) + (k : Int) < (L : Int) := by omega
        have hxk := HXK.out k (by omega)
        obtain ⟨bk, hbk⟩ : ∃ bk, t.getD k 0 = bk := ⟨_, rfl⟩
        rw [hbk] at hxk
        have HBK := Lib.hid hbk
        clear hbk
        have hbkl := UInt8.toNat_lt bk
        have ha1 := and192 bk.toNat (List.mem_range.2 hbkl)
        have ha2 := and63 bk.toNat (List.mem_range.2 hbkl)
        have hwk : IntKind.i64.wrap ((i : Int) + (k : Int)) = (i : Int) + (k : Int) := by rw [IntKind.wrap_i64]; omega
        have hvl := valU_lt (t := t) hv32 (show k - 1 ≤ 2 by omega)
        obtain ⟨v, hv⟩ : ∃ v, valU v1 t (k - 1) = v := ⟨_, rfl⟩
        rw [hv] at hvl ⊢
        have HV := Lib.hid hv
        clear hv
        obtain ⟨x, hx⟩ : ∃ x, bk.toNat % 64 = x := ⟨_, rfl⟩
        have hx64 : x < 64 := by omega
        rw [hx] at ha2
        have HX := Lib.hid hx
        clear hx
        have hor := or64 hvl hx64
        have hws : IntKind.i64.wrap ((v : Int) * 64) = (v : Int) * 64 := by rw [IntKind.wrap_i64]; omega
        have hwx : wrap64 (x : Int) = (x : Int) := IntWalk.wrap64_in _ (by omega)
        by_cases hc : bk.toNat / 64 = 2
        · rw [hc] at ha1
          have HC := Lib.hid hc
          clear hc
          go_wp2_with fail
          go_roundw
          case rel =>
            refine ⟨k + 1, by omega, by omega, by go_num, ?_, fun j h1 h2 => ?_, by first | rfl | trivial⟩
            · have e : valU v1 t (k + 1 - 1) = v * 64 + x := by
                obtain ⟨k', rfl⟩ : ∃ k', k = k' + 1 := ⟨k - 1, by omega⟩
                have h1 := HV.out
                have h2 := HBK.out
                have h3 := HX.out
                simp only [Nat.add_sub_cancel] at h1 ⊢
                unfold valU
                rw [h1, h2, h3]
              rw [e]; go_num
            · rcases Nat.lt_or_ge j k with h3 | h3
              · exact HCN.out j h1 h3
              · rw [show j = k by omega, HBK.out]; exact HC.out
          case measure => simp [intOf]; omega
        · obtain ⟨y, hy⟩ : ∃ y : Nat, bk.toNat / 64 * 64 = y := ⟨_, rfl⟩
          have hyn : ¬ (y : Int) = 128 := by omega
          have hyb : ((y : Int) == 128) = false := by rw [beq_eq_false_iff_ne]; exact hyn
          rw [hy] at ha1
          have HG := Lib.hid (one_bad (t := t) (by
            rw [HB0.out]; intro c l h
            have h1 := HBB.out
            have h2 := HBK.out
            have h4 : k = 1 ∨ k = 2 ∨ k = 3 := by omega
            unfold Dec at h
            rcases h4 with rfl | rfl | rfl
            all_goals (rw [h2] at h; omega)))
          rw [HB0.out] at HG
          clear hy hc
          go_wp2_with fail
          refine bodyPost_ret (results_cell1 rfl rfl (load_unit (laid2 _ _ _).2)) rfl ?_
          exact ⟨by rw [HG.out.1, HG.out.2]; rfl, (laid2 _ _ _).1⟩
      · obtain rfl : k = 2 := by omega
        have hvl : valU v1 t (2 - 1) = valU v1 t 1 := rfl
        rw [hvl]
        have hb1 := HCN.out 1 (by decide) (by decide)
        have hval : valU v1 t 1 = v1 * 64 + (t.getD 1 0).toNat % 64 := by have e : valU v1 t 1 = v1 * 64 + (t.getD 1 0).toNat % 64 := rfl; omega
        obtain ⟨v, hv⟩ : ∃ v, valU v1 t 1 = v := ⟨_, rfl⟩
        rw [hv] at hval ⊢
        have HVAL := Lib.hid hval
        have HB1 := Lib.hid hb1
        clear hv hvl hval hb1
        have r1 : decide ((55296 : Int) ≤ (v : Int)) = false := decide_eq_false (by have h1 := HVAL.out; omega)
        have HG := Lib.hid (one_good (t := t) (c := v) (l := 2) (by rw [HB0.out]; have h1 := HBB.out; have h2 := HTL.out; have h3 := HVAL.out; have h4 := HV1.out; have g1 := HB1.out; exact .inr (.inl (by omega))))
        go_wp2_with fail
        refine bodyPost_ret (results_cell1 rfl rfl (load_unit (laid2 _ _ _).2)) rfl ?_
        exact ⟨by rw [HG.out.1, HG.out.2]; rfl, (laid2 _ _ _).1⟩

set_option maxRecDepth 100000 in
set_option maxHeartbeats 4000000 in
theorem one_3 (s : Wd) (i : Nat) (w : World) (hi : i < s.length) (hl : s.length ≤ 1000000) (hb : 224 ≤ ((s.drop i).getD 0 0).toNat ∧ ((s.drop i).getD 0 0).toNat ≤ 239) :
    Calls Tryd.prog 82 #[.string ⟨s.toArray⟩, .int .i64 i] w (OneRes (s.drop i) i w) := by
  have hsz := size_wd s
  have hi2 : (i : Int) < (s.length : Int) := by omega
  have hx0 := drop_get 0 (s := s) (i := i) (by omega)
  rw [Nat.add_zero] at hx0
  have hxk := fun k h => drop_get (s := s) (i := i) k h
  have htl : (s.drop i).length = s.length - i := List.length_drop
  obtain ⟨t, ht⟩ : ∃ t, s.drop i = t := ⟨_, rfl⟩
  obtain ⟨L, hL⟩ : ∃ L, s.length = L := ⟨_, rfl⟩
  obtain ⟨b0, hb0⟩ : ∃ b0, t.getD 0 0 = b0 := ⟨_, rfl⟩
  rw [ht] at hb
  rw [hb0] at hb
  rw [ht, hb0] at hx0
  rw [ht] at htl hxk
  rw [hL] at htl hsz hi hi2 hl hxk
  rw [ht]
  have HT := Lib.hid ht
  have HL := Lib.hid hL
  have HB0 := Lib.hid hb0
  have HTL := Lib.hid htl
  have HXK := Lib.hid hxk
  clear ht hL hb0 htl hxk
  have hbl := UInt8.toNat_lt b0
  have hwc : wrap64 (b0.toNat : Int) = (b0.toNat : Int) := IntWalk.wrap64_in _ (by omega)
  have c1 : (128 : Int) ≤ b0.toNat := by omega
  have p2 : (194 : Int) ≤ b0.toNat := by omega
  have q2 : (223 : Int) < b0.toNat := by omega
  have p3 : (224 : Int) ≤ b0.toNat := by omega
  have q3 : (b0.toNat : Int) ≤ 239 := by omega
  have hand := and15 b0.toNat (List.mem_range.2 (by omega))
  have HBB := Lib.hid hb
  clear hb
  obtain ⟨v1, hv1⟩ : ∃ v1, b0.toNat % 16 = v1 := ⟨_, rfl⟩
  rw [hv1] at hand
  have hv32 : v1 < 32 := by omega
  have HV1 := Lib.hid hv1
  clear hv1
  have hwi : IntKind.i64.wrap ((i : Int) + 3) = (i : Int) + 3 := by rw [IntKind.wrap_i64]; omega
  rcases Nat.lt_or_ge L (i + 3) with hshort | hlong
  · have hsi : (L : Int) < (i : Int) + 3 := by omega
    have HG := Lib.hid (one_bad (t := t) (by rw [HB0.out]; intro c l h; have := HBB.out; have := HTL.out; unfold Dec at h; omega))
    rw [HB0.out] at HG
    go_enter Tryd.func82, Tryd.ntmps82
    go_wp2_with fail
    refine bodyPost_ret (results_cell1 rfl rfl (load_unit (laid2 _ _ _).2)) rfl ?_
    exact ⟨by rw [HG.out.1, HG.out.2]; rfl, (laid2 _ _ _).1⟩
  · have hsi : (i : Int) + 3 ≤ (L : Int) := by omega
    go_enter Tryd.func82, Tryd.ntmps82
    go_wp2_with fail
    go_loopw [8, 9] (fun vv kv wr => ∃ k : Nat, 1 ≤ k ∧ k ≤ 3 ∧ kv = .int .i64 (k : Int) ∧ vv = .int .i64 (valU v1 t (k - 1) : Nat) ∧ (∀ j, 1 ≤ j → j < k → (t.getD j 0).toNat / 64 = 2) ∧
      wr = (w.alloc (.cells #[.int .i64 0, .int .i64 0, .int .i64 0] 96)).alloc (.cells #[.int .i64 (i : Int), .int .i64 1, .int .i64 (-1 - (b0.toNat : Int))] 96)) (fun _ kv _ => 3 - (intOf kv).toNat)
    case atStart => exact ⟨1, Nat.le_refl _, by decide, rfl, rfl, fun j h1 h2 => absurd h1 (by omega), rfl⟩
    case round =>
      obtain ⟨k, hk1, hk2, rfl, rfl, hcont, rfl⟩ := hrel
      have HCN := Lib.hid hcont
      clear hcont
      rcases Nat.lt_or_ge k 3 with hlt | hge
      · have hki : (k : Int) < 3 := by omega
        have hik : (i : Int) + (k : Int) < (L : Int) := by omega
        have hxk := HXK.out k (by omega)
        obtain ⟨bk, hbk⟩ : ∃ bk, t.getD k 0 = bk := ⟨_, rfl⟩
        rw [hbk] at hxk
        have HBK := Lib.hid hbk
        clear hbk
        have hbkl := UInt8.toNat_lt bk
        have ha1 := and192 bk.toNat (List.mem_range.2 hbkl)
        have ha2 := and63 bk.toNat (List.mem_range.2 hbkl)
        have hwk : IntKind.i64.wrap ((i : Int) + (k : Int)) = (i : Int) + (k : Int) := by rw [IntKind.wrap_i64]; omega
        have hvl := valU_lt (t := t) hv32 (show k - 1 ≤ 2 by omega)
        obtain ⟨v, hv⟩ : ∃ v, valU v1 t (k - 1) = v := ⟨_, rfl⟩
        rw [hv] at hvl ⊢
        have HV := Lib.hid hv
        clear hv
        obtain ⟨x, hx⟩ : ∃ x, bk.toNat % 64 = x := ⟨_, rfl⟩
        have hx64 : x < 64 := by omega
        rw [hx] at ha2
        have HX := Lib.hid hx
        clear hx
        have hor := or64 hvl hx64
        have hws : IntKind.i64.wrap ((v : Int) * 64) = (v : Int) * 64 := by rw [IntKind.wrap_i64]; omega
        have hwx : wrap64 (x : Int) = (x : Int) := IntWalk.wrap64_in _ (by omega)
        by_cases hc : bk.toNat / 64 = 2
        · rw [hc] at ha1
          have HC := Lib.hid hc
          clear hc
          go_wp2_with fail
          go_roundw
          case rel =>
            refine ⟨k + 1, by omega, by omega, by go_num, ?_, fun j h1 h2 => ?_, by first | rfl | trivial⟩
            · have e : valU v1 t (k + 1 - 1) = v * 64 + x := by
                obtain ⟨k', rfl⟩ : ∃ k', k = k' + 1 := ⟨k - 1, by omega⟩
                have h1 := HV.out
                have h2 := HBK.out
                have h3 := HX.out
                simp only [Nat.add_sub_cancel] at h1 ⊢
                unfold valU
                rw [h1, h2, h3]
              rw [e]; go_num
            · rcases Nat.lt_or_ge j k with h3 | h3
              · exact HCN.out j h1 h3
              · rw [show j = k by omega, HBK.out]; exact HC.out
          case measure => simp [intOf]; omega
        · obtain ⟨y, hy⟩ : ∃ y : Nat, bk.toNat / 64 * 64 = y := ⟨_, rfl⟩
          have hyn : ¬ (y : Int) = 128 := by omega
          have hyb : ((y : Int) == 128) = false := by rw [beq_eq_false_iff_ne]; exact hyn
          rw [hy] at ha1
          have HG := Lib.hid (one_bad (t := t) (by
            rw [HB0.out]; intro c l h
            have h1 := HBB.out
            have h2 := HBK.out
            have h4 : k = 1 ∨ k = 2 ∨ k = 3 := by omega
            unfold Dec at h
            rcases h4 with rfl | rfl | rfl
            all_goals (rw [h2] at h; omega)))
          rw [HB0.out] at HG
          clear hy hc
          go_wp2_with fail
          refine bodyPost_ret (results_cell1 rfl rfl (load_unit (laid2 _ _ _).2)) rfl ?_
          exact ⟨by rw [HG.out.1, HG.out.2]; rfl, (laid2 _ _ _).1⟩
      · obtain rfl : k = 3 := by omega
        have hvl : valU v1 t (3 - 1) = valU v1 t 2 := rfl
        rw [hvl]
        have hb1 := HCN.out 1 (by decide) (by decide)
        have hb2 := HCN.out 2 (by decide) (by decide)
        have hval : valU v1 t 2 = v1 * 4096 + (t.getD 1 0).toNat % 64 * 64 + (t.getD 2 0).toNat % 64 := by have e : valU v1 t 2 = (v1 * 64 + (t.getD 1 0).toNat % 64) * 64 + (t.getD 2 0).toNat % 64 := rfl; omega
        obtain ⟨v, hv⟩ : ∃ v, valU v1 t 2 = v := ⟨_, rfl⟩
        rw [hv] at hval ⊢
        have HVAL := Lib.hid hval
        have HB1 := Lib.hid hb1
        have HB2 := Lib.hid hb2
        clear hv hvl hval hb1 hb2
        rcases Nat.lt_or_ge v 2048 with hs1 | hs1
        · have r1 : decide ((v : Int) < 2048) = true := decide_eq_true (by omega)
          have HG := Lib.hid (one_bad (t := t) (by rw [HB0.out]; intro c l h; have h1 := HBB.out; have h2 := HTL.out; have h3 := HVAL.out; have h4 := HV1.out; have g1 := HB1.out; have g2 := HB2.out; unfold Dec at h; omega))
          rw [HB0.out] at HG
          go_wp2_with fail
          refine bodyPost_ret (results_cell1 rfl rfl (load_unit (laid2 _ _ _).2)) rfl ?_
          exact ⟨by rw [HG.out.1, HG.out.2]; rfl, (laid2 _ _ _).1⟩
        · have r1 : decide ((v : Int) < 2048) = false := decide_eq_false (by omega)
          rcases Nat.lt_or_ge v 55296 with hs2 | hs2
          · have r2 : decide ((55296 : Int) ≤ (v : Int)) = false := decide_eq_false (by omega)
            have HG := Lib.hid (one_good (t := t) (c := v) (l := 3) (by rw [HB0.out]; have h1 := HBB.out; have h2 := HTL.out; have h3 := HVAL.out; have h4 := HV1.out; have g1 := HB1.out; have g2 := HB2.out; exact .inr (.inr (.inl (by omega)))))
            go_wp2_with fail
            refine bodyPost_ret (results_cell1 rfl rfl (load_unit (laid2 _ _ _).2)) rfl ?_
            exact ⟨by rw [HG.out.1, HG.out.2]; rfl, (laid2 _ _ _).1⟩
          · have r2 : decide ((55296 : Int) ≤ (v : Int)) = true := decide_eq_true (by omega)
            rcases Nat.lt_or_ge 57343 v with hs3 | hs3
            · have r3 : decide ((v : Int) ≤ 57343) = false := decide_eq_false (by omega)
              have HG := Lib.hid (one_good (t := t) (c := v) (l := 3) (by rw [HB0.out]; have h1 := HBB.out; have h2 := HTL.out; have h3 := HVAL.out; have h4 := HV1.out; have g1 := HB1.out; have g2 := HB2.out; exact .inr (.inr (.inl (by omega)))))
              go_wp2_with fail
              refine bodyPost_ret (results_cell1 rfl rfl (load_unit (laid2 _ _ _).2)) rfl ?_
              exact ⟨by rw [HG.out.1, HG.out.2]; rfl, (laid2 _ _ _).1⟩
            · have r3 : decide ((v : Int) ≤ 57343) = true := decide_eq_true (by omega)
              have HG := Lib.hid (one_bad (t := t) (by rw [HB0.out]; intro c l h; have h1 := HBB.out; have h2 := HTL.out; have h3 := HVAL.out; have h4 := HV1.out; have g1 := HB1.out; have g2 := HB2.out; unfold Dec at h; omega))
              rw [HB0.out] at HG
              go_wp2_with fail
              refine bodyPost_ret (results_cell1 rfl rfl (load_unit (laid2 _ _ _).2)) rfl ?_
              exact ⟨by rw [HG.out.1, HG.out.2]; rfl, (laid2 _ _ _).1⟩

set_option maxRecDepth 100000 in
set_option maxHeartbeats 4000000 in
theorem one_4 (s : Wd) (i : Nat) (w : World) (hi : i < s.length) (hl : s.length ≤ 1000000) (hb : 240 ≤ ((s.drop i).getD 0 0).toNat ∧ ((s.drop i).getD 0 0).toNat ≤ 244) :
    Calls Tryd.prog 82 #[.string ⟨s.toArray⟩, .int .i64 i] w (OneRes (s.drop i) i w) := by
  have hsz := size_wd s
  have hi2 : (i : Int) < (s.length : Int) := by omega
  have hx0 := drop_get 0 (s := s) (i := i) (by omega)
  rw [Nat.add_zero] at hx0
  have hxk := fun k h => drop_get (s := s) (i := i) k h
  have htl : (s.drop i).length = s.length - i := List.length_drop
  obtain ⟨t, ht⟩ : ∃ t, s.drop i = t := ⟨_, rfl⟩
  obtain ⟨L, hL⟩ : ∃ L, s.length = L := ⟨_, rfl⟩
  obtain ⟨b0, hb0⟩ : ∃ b0, t.getD 0 0 = b0 := ⟨_, rfl⟩
  rw [ht] at hb
  rw [hb0] at hb
  rw [ht, hb0] at hx0
  rw [ht] at htl hxk
  rw [hL] at htl hsz hi hi2 hl hxk
  rw [ht]
  have HT := Lib.hid ht
  have HL := Lib.hid hL
  have HB0 := Lib.hid hb0
  have HTL := Lib.hid htl
  have HXK := Lib.hid hxk
  clear ht hL hb0 htl hxk
  have hbl := UInt8.toNat_lt b0
  have hwc : wrap64 (b0.toNat : Int) = (b0.toNat : Int) := IntWalk.wrap64_in _ (by omega)
  have c1 : (128 : Int) ≤ b0.toNat := by omega
  have p2 : (194 : Int) ≤ b0.toNat := by omega
  have q2 : (223 : Int) < b0.toNat := by omega
  have p3 : (224 : Int) ≤ b0.toNat := by omega
  have q3 : (239 : Int) < b0.toNat := by omega
  have p4 : (240 : Int) ≤ b0.toNat := by omega
  have q4 : (b0.toNat : Int) ≤ 244 := by omega
  have hand := and7 b0.toNat (List.mem_range.2 (by omega))
  have HBB := Lib.hid hb
  clear hb
  obtain ⟨v1, hv1⟩ : ∃ v1, b0.toNat % 8 = v1 := ⟨_, rfl⟩
  rw [hv1] at hand
  have hv32 : v1 < 32 := by omega
  have HV1 := Lib.hid hv1
  clear hv1
  have hwi : IntKind.i64.wrap ((i : Int) + 4) = (i : Int) + 4 := by rw [IntKind.wrap_i64]; omega
  rcases Nat.lt_or_ge L (i + 4) with hshort | hlong
  · have hsi : (L : Int) < (i : Int) + 4 := by omega
    have HG := Lib.hid (one_bad (t := t) (by rw [HB0.out]; intro c l h; have := HBB.out; have := HTL.out; unfold Dec at h; omega))
    rw [HB0.out] at HG
    go_enter Tryd.func82, Tryd.ntmps82
    go_wp2_with fail
    refine bodyPost_ret (results_cell1 rfl rfl (load_unit (laid2 _ _ _).2)) rfl ?_
    exact ⟨by rw [HG.out.1, HG.out.2]; rfl, (laid2 _ _ _).1⟩
  · have hsi : (i : Int) + 4 ≤ (L : Int) := by omega
    go_enter Tryd.func82, Tryd.ntmps82
    go_wp2_with fail
    go_loopw [8, 9] (fun vv kv wr => ∃ k : Nat, 1 ≤ k ∧ k ≤ 4 ∧ kv = .int .i64 (k : Int) ∧ vv = .int .i64 (valU v1 t (k - 1) : Nat) ∧ (∀ j, 1 ≤ j → j < k → (t.getD j 0).toNat / 64 = 2) ∧
      wr = (w.alloc (.cells #[.int .i64 0, .int .i64 0, .int .i64 0] 96)).alloc (.cells #[.int .i64 (i : Int), .int .i64 1, .int .i64 (-1 - (b0.toNat : Int))] 96)) (fun _ kv _ => 4 - (intOf kv).toNat)
    case atStart => exact ⟨1, Nat.le_refl _, by decide, rfl, rfl, fun j h1 h2 => absurd h1 (by omega), rfl⟩
    case round =>
      obtain ⟨k, hk1, hk2, rfl, rfl, hcont, rfl⟩ := hrel
      have HCN := Lib.hid hcont
      clear hcont
      rcases Nat.lt_or_ge k 4 with hlt | hge
      · have hki : (k : Int) < 4 := by omega
        have hik : (i : Int) + (k : Int) < (L : Int) := by omega
        have hxk := HXK.out k (by omega)
        obtain ⟨bk, hbk⟩ : ∃ bk, t.getD k 0 = bk := ⟨_, rfl⟩
        rw [hbk] at hxk
        have HBK := Lib.hid hbk
        clear hbk
        have hbkl := UInt8.toNat_lt bk
        have ha1 := and192 bk.toNat (List.mem_range.2 hbkl)
        have ha2 := and63 bk.toNat (List.mem_range.2 hbkl)
        have hwk : IntKind.i64.wrap ((i : Int) + (k : Int)) = (i : Int) + (k : Int) := by rw [IntKind.wrap_i64]; omega
        have hvl := valU_lt (t := t) hv32 (show k - 1 ≤ 2 by omega)
        obtain ⟨v, hv⟩ : ∃ v, valU v1 t (k - 1) = v := ⟨_, rfl⟩
        rw [hv] at hvl ⊢
        have HV := Lib.hid hv
        clear hv
        obtain ⟨x, hx⟩ : ∃ x, bk.toNat % 64 = x := ⟨_, rfl⟩
        have hx64 : x < 64 := by omega
        rw [hx] at ha2
        have HX := Lib.hid hx
        clear hx
        have hor := or64 hvl hx64
        have hws : IntKind.i64.wrap ((v : Int) * 64) = (v : Int) * 64 := by rw [IntKind.wrap_i64]; omega
        have hwx : wrap64 (x : Int) = (x : Int) := IntWalk.wrap64_in _ (by omega)
        by_cases hc : bk.toNat / 64 = 2
        · rw [hc] at ha1
          have HC := Lib.hid hc
          clear hc
          go_wp2_with fail
          go_roundw
          case rel =>
            refine ⟨k + 1, by omega, by omega, by go_num, ?_, fun j h1 h2 => ?_, by first | rfl | trivial⟩
            · have e : valU v1 t (k + 1 - 1) = v * 64 + x := by
                obtain ⟨k', rfl⟩ : ∃ k', k = k' + 1 := ⟨k - 1, by omega⟩
                have h1 := HV.out
                have h2 := HBK.out
                have h3 := HX.out
                simp only [Nat.add_sub_cancel] at h1 ⊢
                unfold valU
                rw [h1, h2, h3]
              rw [e]; go_num
            · rcases Nat.lt_or_ge j k with h3 | h3
              · exact HCN.out j h1 h3
              · rw [show j = k by omega, HBK.out]; exact HC.out
          case measure => simp [intOf]; omega
        · obtain ⟨y, hy⟩ : ∃ y : Nat, bk.toNat / 64 * 64 = y := ⟨_, rfl⟩
          have hyn : ¬ (y : Int) = 128 := by omega
          have hyb : ((y : Int) == 128) = false := by rw [beq_eq_false_iff_ne]; exact hyn
          rw [hy] at ha1
          have HG := Lib.hid (one_bad (t := t) (by
            rw [HB0.out]; intro c l h
            have h1 := HBB.out
            have h2 := HBK.out
            have h4 : k = 1 ∨ k = 2 ∨ k = 3 := by omega
            unfold Dec at h
            rcases h4 with rfl | rfl | rfl
            all_goals (rw [h2] at h; omega)))
          rw [HB0.out] at HG
          clear hy hc
          go_wp2_with fail
          refine bodyPost_ret (results_cell1 rfl rfl (load_unit (laid2 _ _ _).2)) rfl ?_
          exact ⟨by rw [HG.out.1, HG.out.2]; rfl, (laid2 _ _ _).1⟩
      · obtain rfl : k = 4 := by omega
        have hvl : valU v1 t (4 - 1) = valU v1 t 3 := rfl
        rw [hvl]
        have hb1 := HCN.out 1 (by decide) (by decide)
        have hb2 := HCN.out 2 (by decide) (by decide)
        have hb3 := HCN.out 3 (by decide) (by decide)
        have hval : valU v1 t 3 = v1 * 262144 + (t.getD 1 0).toNat % 64 * 4096 + (t.getD 2 0).toNat % 64 * 64 + (t.getD 3 0).toNat % 64 := by have e : valU v1 t 3 = ((v1 * 64 + (t.getD 1 0).toNat % 64) * 64 + (t.getD 2 0).toNat % 64) * 64 + (t.getD 3 0).toNat % 64 := rfl; omega
        obtain ⟨v, hv⟩ : ∃ v, valU v1 t 3 = v := ⟨_, rfl⟩
        rw [hv] at hval ⊢
        have HVAL := Lib.hid hval
        have HB1 := Lib.hid hb1
        have HB2 := Lib.hid hb2
        have HB3 := Lib.hid hb3
        clear hv hvl hval hb1 hb2 hb3
        rcases Nat.lt_or_ge v 65536 with hs1 | hs1
        · have r1 : decide ((v : Int) < 65536) = true := decide_eq_true (by omega)
          have HG := Lib.hid (one_bad (t := t) (by rw [HB0.out]; intro c l h; have h1 := HBB.out; have h2 := HTL.out; have h3 := HVAL.out; have h4 := HV1.out; have g1 := HB1.out; have g2 := HB2.out; have g3 := HB3.out; unfold Dec at h; omega))
          rw [HB0.out] at HG
          go_wp2_with fail
          refine bodyPost_ret (results_cell1 rfl rfl (load_unit (laid2 _ _ _).2)) rfl ?_
          exact ⟨by rw [HG.out.1, HG.out.2]; rfl, (laid2 _ _ _).1⟩
        · have r1 : decide ((v : Int) < 65536) = false := decide_eq_false (by omega)
          have r2 : decide ((55296 : Int) ≤ (v : Int)) = true := decide_eq_true (by omega)
          have r3 : decide ((v : Int) ≤ 57343) = false := decide_eq_false (by omega)
          rcases Nat.lt_or_ge 1114111 v with hs2 | hs2
          · have r4 : decide ((1114111 : Int) < (v : Int)) = true := decide_eq_true (by omega)
            have HG := Lib.hid (one_bad (t := t) (by rw [HB0.out]; intro c l h; have h1 := HBB.out; have h2 := HTL.out; have h3 := HVAL.out; have h4 := HV1.out; have g1 := HB1.out; have g2 := HB2.out; have g3 := HB3.out; unfold Dec at h; omega))
            rw [HB0.out] at HG
            go_wp2_with fail
            refine bodyPost_ret (results_cell1 rfl rfl (load_unit (laid2 _ _ _).2)) rfl ?_
            exact ⟨by rw [HG.out.1, HG.out.2]; rfl, (laid2 _ _ _).1⟩
          · have r4 : decide ((1114111 : Int) < (v : Int)) = false := decide_eq_false (by omega)
            have HG := Lib.hid (one_good (t := t) (c := v) (l := 4) (by rw [HB0.out]; have h1 := HBB.out; have h2 := HTL.out; have h3 := HVAL.out; have h4 := HV1.out; have g1 := HB1.out; have g2 := HB2.out; have g3 := HB3.out; exact .inr (.inr (.inr (by omega)))))
            go_wp2_with fail
            refine bodyPost_ret (results_cell1 rfl rfl (load_unit (laid2 _ _ _).2)) rfl ?_
            exact ⟨by rw [HG.out.1, HG.out.2]; rfl, (laid2 _ _ _).1⟩

theorem one_walk (s : Wd) (i : Nat) (w : World) (hi : i < s.length) (hl : s.length ≤ 1000000) : Calls Tryd.prog 82 #[.string ⟨s.toArray⟩, .int .i64 i] w (OneRes (s.drop i) i w) := by
  rcases Nat.lt_or_ge ((s.drop i).getD 0 0).toNat 128 with h1 | h1
  · exact one_ascii s i w hi hl h1
  · rcases Nat.lt_or_ge ((s.drop i).getD 0 0).toNat 194 with h2 | h2
    · exact one_low s i w hi hl ⟨h1, h2⟩
    · rcases Nat.lt_or_ge ((s.drop i).getD 0 0).toNat 224 with h3 | h3
      · exact one_2 s i w hi hl ⟨h2, by omega⟩
      · rcases Nat.lt_or_ge ((s.drop i).getD 0 0).toNat 240 with h4 | h4
        · exact one_3 s i w hi hl ⟨h3, by omega⟩
        · rcases Nat.lt_or_ge 244 ((s.drop i).getD 0 0).toNat with h5 | h5
          · exact one_high s i w hi hl h5
          · exact one_4 s i w hi hl ⟨h4, h5⟩
end Go.Proofs.YtdcdhcgfhapbnaaDoor
