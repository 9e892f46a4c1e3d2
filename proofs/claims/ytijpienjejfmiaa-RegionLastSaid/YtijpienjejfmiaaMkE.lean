/-
  Marks' even on trees of places: the walk. No conditions beyond those that each law names.
-/
import Derived.Test.YtijpienjejfmiaaMkL
namespace Go.Proofs.Ytijpienjejfmiaa
open Go Go.RowKit

/-- The state of even's loop: the sides looked at so far are not too high. -/
def EvRel (l r : Tr) (w1 : World) (iv : Value) (wr : World) : Prop :=
  ∃ i : Nat, i ≤ 2 ∧ iv = .int .i64 (i : Int) ∧ wr.heap = w1.heap ∧ w1.grownBy wr none ∧ (0 < i → highT l ≤ highT r + 1) ∧ (1 < i → highT r ≤ highT l + 1)

theorem side0 (x y : Value) (u : World) : (Instr.index 69 (.agg #[x, y]) (.int .i64 0)).run Try.prog u = .ok x u := by
  unfold Instr.index
  simp [asIntOf, part]
theorem side1 (x y : Value) (u : World) : (Instr.index 69 (.agg #[x, y]) (.int .i64 1)).run Try.prog u = .ok y u := by
  unfold Instr.index
  simp [asIntOf, part]

theorem Only.ofGrown {w w' : World} {B : List Nat} (h : w.grownBy w' none) : Only B w w' := Only.grown h nofun

set_option maxRecDepth 100000 in
set_option maxHeartbeats 4000000 in
theorem even_walk {b : Nat} {l r : Tr} {s : Sp} {hh c m : Int} (w : World) (h : Lay w (.node b l r s hh c m 0)) (hn : (blks (.node b l r s hh c m 0)).Nodup) (hGl : Good l) (hGr : Good r) :
    Calls Try.prog 57 #[.pointer (some ⟨b, 0, none⟩)] w fun e w' => e = .returned (ptrV (evenT (.node b l r s hh c m 0))) ∧ Lay w' (evenT (.node b l r s hh c m 0)) ∧ Only (b :: (blks l ++ blks r)) w w' := by
  have hs0 := side0 (ptrV l) (ptrV r)
  have hs1 := side1 (ptrV l) (ptrV r)
  have hw1 : IntKind.i64.wrap 1 = 1 := by decide
  have hw0 : IntKind.i64.wrap 0 = 0 := by decide
  have hil := hGl.rg.high (by omega)
  have hir := hGr.rg.high (by omega)
  have hwl : IntKind.i64.wrap (highT l + 1) = highT l + 1 := wrap_fit (by omega)
  have hwr : IntKind.i64.wrap (highT r + 1) = highT r + 1 := wrap_fit (by omega)
  have hf : TdFit l r := hGl.rg.told hGr.rg (by omega) (by omega)
  obtain ⟨n1, n2, n3, n4, n5⟩ := node_nodup hn
  go_enter Try.func57, Try.ntmps57
  go_wp2_with fail
  refine (told_walk w h hn hf).mono ?_
  rintro e w1 ⟨rfl, h1, ho1⟩
  have hb1 := lay_cells h1
  have c3 := cell_of_heap hb1 3
  have c4 := cell_of_heap hb1 4
  have HB1 := Lib.hid hb1
  have H1 := Lib.hid h1
  have HO1 := Lib.hid ho1
  go_wp2_with fail
  clear c3 c4 hb1 h1 ho1
  go_loopw [11] (fun iv wr => EvRel l r w1 iv wr) (fun iv _ => 2 - (RowKit.intOf iv).toNat)
  case atStart => exact ⟨0, by omega, rfl, rfl, grownBy_refl _ none, by omega, by omega⟩
  case round =>
    obtain ⟨i, hi, rfl, hheap, hg, hi1, hi2⟩ := hrel
    have hb := grownBy_heap hg HB1.out nofun
    have c3 := cell_of_heap hb 3
    have c4 := cell_of_heap hb 4
    have HL := Lib.hid (H1.out.2.1.same hheap)
    have HR := Lib.hid (H1.out.2.2.same hheap)
    have HH := Lib.hid hheap
    have HG := Lib.hid hg
    have HOr := Lib.hid ((HO1.out.mono (B' := b :: (blks l ++ blks r)) (fun x hx => .inl (by rw [List.mem_singleton.1 hx]; simp))).trans (Only.ofGrown (B := []) hg) (fun _ h => absurd h (by simp)))
    clear hheap hg hb
    rcases (show i = 0 ∨ i = 1 ∨ i = 2 by omega) with rfl | rfl | rfl
    · go_upto_region 5 with (fail)
      refine region_hw (fun u => u = wr.drew) (by kernel_rfl) rfl (fun hHeld => ?_)
      refine hw_take 0 (v := ?_) rfl (by kernel_rfl) (by kernel_rfl) (by kernel_rfl) (fun _ _ _ h => h) (by rfl) (fun u hu => ?_) (by assumption) ?_
      rotate_left
      focus ((try dsimp only at hu); go_simp; (try with_reducible rfl); done)
      try simp only [Act.put, List.setIfInBounds_toArray, List.set_cons_zero, List.set_cons_succ]
      refine hw_take 2 (v := ?_) rfl (by kernel_rfl) (by kernel_rfl) (by kernel_rfl) (fun _ _ _ h => h) (by rfl) (fun u hu => ?_) (by assumption) ?_
      rotate_left
      focus ((try dsimp only at hu); go_simp; (try with_reducible rfl); done)
      try simp only [Act.put, List.setIfInBounds_toArray, List.set_cons_zero, List.set_cons_succ]
      refine hw_take 3 (v := ?_) rfl (by kernel_rfl) (by kernel_rfl) (by kernel_rfl) (fun _ _ _ h => h) (by rfl) (fun u hu => ?_) (by assumption) ?_
      rotate_left
      focus ((try dsimp only at hu); go_simp; (try with_reducible rfl); done)
      try simp only [Act.put, List.setIfInBounds_toArray, List.set_cons_zero, List.set_cons_succ]
      refine hw_take 4 (v := ?_) rfl (by kernel_rfl) (by kernel_rfl) (by kernel_rfl) (fun _ _ _ h => h) (by rfl) (fun u hu => ?_) (by assumption) ?_
      rotate_left
      focus ((try dsimp only at hu); go_simp; (try with_reducible rfl); done)
      try simp only [Act.put, List.setIfInBounds_toArray, List.set_cons_zero, List.set_cons_succ]
      refine hw_take 5 (v := ?_) rfl (by kernel_rfl) (by kernel_rfl) (by kernel_rfl) (fun _ _ _ h => h) (by rfl) (fun u hu => ?_) (by assumption) ?_
      rotate_left
      focus ((try dsimp only at hu); go_simp; (try with_reducible rfl); done)
      try simp only [Act.put, List.setIfInBounds_toArray, List.set_cons_zero, List.set_cons_succ]
      refine hw_take 6 (v := ?_) rfl (by kernel_rfl) (by kernel_rfl) (by kernel_rfl) (fun _ _ _ h => h) (by rfl) (fun u hu => ?_) (by assumption) ?_
      rotate_left
      focus ((try dsimp only at hu); go_simp; (try with_reducible rfl); done)
      try simp only [Act.put, List.setIfInBounds_toArray, List.set_cons_zero, List.set_cons_succ]
      refine hw_take 7 (v := ?_) rfl (by kernel_rfl) (by kernel_rfl) (by kernel_rfl) (fun _ _ _ h => h) (by rfl) (fun u hu => ?_) (by assumption) ?_
      rotate_left
      focus ((try dsimp only at hu); go_simp; (try with_reducible rfl); done)
      try simp only [Act.put, List.setIfInBounds_toArray, List.set_cons_zero, List.set_cons_succ]
      refine hw_take 8 (v := ?_) rfl (by kernel_rfl) (by kernel_rfl) (by kernel_rfl) (fun _ _ _ h => h) (by rfl) (fun u hu => ?_) (by assumption) ?_
      rotate_left
      focus ((try dsimp only at hu); go_simp; (try with_reducible rfl); done)
      try simp only [Act.put, List.setIfInBounds_toArray, List.set_cons_zero, List.set_cons_succ]
      refine hw_one 1 (by kernel_rfl) rfl (fun K hK => ?_)
      go_simp
      go_at_call 48
      refine (high_walk l _ (HL.out.same (w' := wr.drew) rfl)).mono ?_
      rintro e u1 ⟨rfl, eu1⟩
      have eu1 := eu1.symm
      subst eu1
      try go_simp
      refine hK.out _ _ (by first | rfl | assumption | trivial) (fun hHeld1 => ?_)
      clear hK K
      try simp only [Act.put, List.setIfInBounds_toArray, List.set_cons_zero, List.set_cons_succ]
      refine hw_one 9 (by kernel_rfl) rfl (fun K hK => ?_)
      go_simp
      go_at_call 48
      refine (high_walk r _ (HR.out.same (w' := wr.drew) rfl)).mono ?_
      rintro e u9 ⟨rfl, eu9⟩
      have eu9 := eu9.symm
      subst eu9
      try go_simp
      refine hK.out _ _ (by first | rfl | assumption | trivial) (fun hHeld9 => ?_)
      clear hK K
      try simp only [Act.put, List.setIfInBounds_toArray, List.set_cons_zero, List.set_cons_succ]
      refine hw_take 10 (v := ?_) rfl (by kernel_rfl) (by kernel_rfl) (by kernel_rfl) (fun _ _ _ h => h) (by rfl) (fun u hu => ?_) (by assumption) ?_
      rotate_left
      focus ((try dsimp only at hu); go_simp; (try with_reducible rfl); done)
      try simp only [Act.put, List.setIfInBounds_toArray, List.set_cons_zero, List.set_cons_succ]
      refine hw_take 11 (v := ?_) rfl (by kernel_rfl) (by kernel_rfl) (by kernel_rfl) (fun _ _ _ h => h) (by rfl) (fun u hu => ?_) (by assumption) ?_
      rotate_left
      focus ((try dsimp only at hu); go_simp; (try with_reducible rfl); done)
      try simp only [Act.put, List.setIfInBounds_toArray, List.set_cons_zero, List.set_cons_succ]
      refine hw_done (by kernel_rfl) ?_
      by_cases hle : highT l ≤ highT r + 1
      · go_wp2_with fail
        go_roundw
        case rel => exact ⟨1, by omega, by first | rfl | go_num, HH.out, grownBy_drew HG.out, fun _ => hle, by omega⟩
        case measure => simp [RowKit.intOf]
      · have hne : l ≠ .nil := fun e => hle (by rw [e]; have := hGr.tells.high; show (0 : Int) ≤ _; omega)
        cases l with
        | nil => exact absurd rfl hne
        | node bk kl kr ks kh kc km kw =>
          go_wp2_with fail
          refine (down0_walk _ hGl (HL.out.same (w' := wr.drew) rfl) n3).mono ?_
          rintro e w2 ⟨rfl, hk2, ho2⟩
          have hkb := lay_cells hk2
          have d3 := cell_of_heap hkb 3
          have d4 := cell_of_heap hkb 4
          have HK2 := Lib.hid hk2
          have HKL := Lib.hid hk2.2.1
          have HKR := Lib.hid hk2.2.2
          have HO2 := Lib.hid ho2
          have hb2 := HO2.out.heap (show wr.drew.heap[b]? = _ from (congrArg (fun h => h[b]?) HH.out).trans HB1.out) (fun hm => n1 b hm rfl)
          have hr2 := Lay.only (HR.out.same (w' := wr.drew) rfl) HO2.out (fun x hx hm => n5 x hm hx)
          have HB2 := Lib.hid hb2
          have HR2 := Lib.hid hr2
          have HOw := Lib.hid (HOr.out.drew.trans ho2 (fun x hx => .inl (List.mem_cons_of_mem _ (List.mem_append.2 (.inl hx)))))
          clear hkb hk2 ho2 hb2 hr2
          go_upto_region 7 with (fail)
          have hpk : ptrV (Tr.node bk kl kr ks kh kc km kw) = .pointer (some ⟨bk, 0, none⟩) := rfl
          rw [hpk]
          refine region_hw (fun u => u = w2.drew) (by kernel_rfl) rfl (fun hHeld => ?_)
          refine hw_take 0 (v := ?_) rfl (by kernel_rfl) (by kernel_rfl) (by kernel_rfl) (fun _ _ _ h => h) (by rfl) (fun u hu => ?_) (by assumption) ?_
          rotate_left
          focus ((try dsimp only at hu); go_simp; (try with_reducible rfl); done)
          try simp only [Act.put, List.setIfInBounds_toArray, List.set_cons_zero, List.set_cons_succ]
          refine hw_take 1 (v := ?_) rfl (by kernel_rfl) (by kernel_rfl) (by kernel_rfl) (fun _ _ _ h => h) (by rfl) (fun u hu => ?_) (by assumption) ?_
          rotate_left
          focus ((try dsimp only at hu); go_simp; (try with_reducible rfl); done)
          try simp only [Act.put, List.setIfInBounds_toArray, List.set_cons_zero, List.set_cons_succ]
          refine hw_take 2 (v := ?_) rfl (by kernel_rfl) (by kernel_rfl) (by kernel_rfl) (fun _ _ _ h => h) (by rfl) (fun u hu => ?_) (by assumption) ?_
          rotate_left
          focus ((try dsimp only at hu); go_simp; (try with_reducible rfl); done)
          try simp only [Act.put, List.setIfInBounds_toArray, List.set_cons_zero, List.set_cons_succ]
          refine hw_take 3 (v := ?_) rfl (by kernel_rfl) (by kernel_rfl) (by kernel_rfl) (fun _ _ _ h => h) (by rfl) (fun u hu => ?_) (by assumption) ?_
          rotate_left
          focus ((try dsimp only at hu); go_simp; (try with_reducible rfl); done)
          try simp only [Act.put, List.setIfInBounds_toArray, List.set_cons_zero, List.set_cons_succ]
          refine hw_take 4 (v := ?_) rfl (by kernel_rfl) (by kernel_rfl) (by kernel_rfl) (fun _ _ _ h => h) (by rfl) (fun u hu => ?_) (by assumption) ?_
          rotate_left
          focus ((try dsimp only at hu); go_simp; (try with_reducible rfl); done)
          try simp only [Act.put, List.setIfInBounds_toArray, List.set_cons_zero, List.set_cons_succ]
          refine hw_take 5 (v := ?_) rfl (by kernel_rfl) (by kernel_rfl) (by kernel_rfl) (fun _ _ _ h => h) (by rfl) (fun u hu => ?_) (by assumption) ?_
          rotate_left
          focus ((try dsimp only at hu); go_simp; (try with_reducible rfl); done)
          try simp only [Act.put, List.setIfInBounds_toArray, List.set_cons_zero, List.set_cons_succ]
          refine hw_take 6 (v := ?_) rfl (by kernel_rfl) (by kernel_rfl) (by kernel_rfl) (fun _ _ _ h => h) (by rfl) (fun u hu => ?_) (by assumption) ?_
          rotate_left
          focus ((try dsimp only at hu); go_simp; (try with_reducible rfl); done)
          try simp only [Act.put, List.setIfInBounds_toArray, List.set_cons_zero, List.set_cons_succ]
          refine hw_take 8 (v := ?_) rfl (by kernel_rfl) (by kernel_rfl) (by kernel_rfl) (fun _ _ _ h => h) (by rfl) (fun u hu => ?_) (by assumption) ?_
          rotate_left
          focus ((try dsimp only at hu); go_simp; (try with_reducible rfl); done)
          try simp only [Act.put, List.setIfInBounds_toArray, List.set_cons_zero, List.set_cons_succ]
          refine hw_take 9 (v := ?_) rfl (by kernel_rfl) (by kernel_rfl) (by kernel_rfl) (fun _ _ _ h => h) (by rfl) (fun u hu => ?_) (by assumption) ?_
          rotate_left
          focus ((try dsimp only at hu); go_simp; (try with_reducible rfl); done)
          try simp only [Act.put, List.setIfInBounds_toArray, List.set_cons_zero, List.set_cons_succ]
          refine hw_take 10 (v := ?_) rfl (by kernel_rfl) (by kernel_rfl) (by kernel_rfl) (fun _ _ _ h => h) (by rfl) (fun u hu => ?_) (by assumption) ?_
          rotate_left
          focus ((try dsimp only at hu); go_simp; (try with_reducible rfl); done)
          try simp only [Act.put, List.setIfInBounds_toArray, List.set_cons_zero, List.set_cons_succ]
          refine hw_take 11 (v := ?_) rfl (by kernel_rfl) (by kernel_rfl) (by kernel_rfl) (fun _ _ _ h => h) (by rfl) (fun u hu => ?_) (by assumption) ?_
          rotate_left
          focus ((try dsimp only at hu); go_simp; (try with_reducible rfl); done)
          try simp only [Act.put, List.setIfInBounds_toArray, List.set_cons_zero, List.set_cons_succ]
          refine hw_take 12 (v := ?_) rfl (by kernel_rfl) (by kernel_rfl) (by kernel_rfl) (fun _ _ _ h => h) (by rfl) (fun u hu => ?_) (by assumption) ?_
          rotate_left
          focus ((try dsimp only at hu); go_simp; (try with_reducible rfl); done)
          try simp only [Act.put, List.setIfInBounds_toArray, List.set_cons_zero, List.set_cons_succ]
          refine hw_take 13 (v := ?_) rfl (by kernel_rfl) (by kernel_rfl) (by kernel_rfl) (fun _ _ _ h => h) (by rfl) (fun u hu => ?_) (by assumption) ?_
          rotate_left
          focus ((try dsimp only at hu); go_simp; (try with_reducible rfl); done)
          try simp only [Act.put, List.setIfInBounds_toArray, List.set_cons_zero, List.set_cons_succ]
          refine hw_one 7 (by kernel_rfl) rfl (fun K hK => ?_)
          go_simp
          go_at_call 48
          refine (high_walk (moveT kw kr) _ (HKR.out.same (w' := w2.drew) rfl)).mono ?_
          rintro e u7 ⟨rfl, eu7⟩
          have eu7 := eu7.symm
          subst eu7
          try go_simp
          refine hK.out _ _ (by first | rfl | assumption | trivial) (fun hHeld7 => ?_)
          clear hK K
          try simp only [Act.put, List.setIfInBounds_toArray, List.set_cons_zero, List.set_cons_succ]
          refine hw_one 14 (by kernel_rfl) rfl (fun K hK => ?_)
          go_simp
          go_at_call 48
          refine (high_walk (moveT kw kl) _ (HKL.out.same (w' := w2.drew) rfl)).mono ?_
          rintro e u14 ⟨rfl, eu14⟩
          have eu14 := eu14.symm
          subst eu14
          try go_simp
          refine hK.out _ _ (by first | rfl | assumption | trivial) (fun hHeld14 => ?_)
          clear hK K
          try simp only [Act.put, List.setIfInBounds_toArray, List.set_cons_zero, List.set_cons_succ]
          refine hw_take 15 (v := ?_) rfl (by kernel_rfl) (by kernel_rfl) (by kernel_rfl) (fun _ _ _ h => h) (by rfl) (fun u hu => ?_) (by assumption) ?_
          rotate_left
          focus ((try dsimp only at hu); go_simp; (try with_reducible rfl); done)
          try simp only [Act.put, List.setIfInBounds_toArray, List.set_cons_zero, List.set_cons_succ]
          refine hw_done (by kernel_rfl) ?_
          by_cases hgt : highT (moveT kw kl) < highT (moveT kw kr)
          · have hev : evenT (.node b (.node bk kl kr ks kh kc km kw) r s hh c m 0) = liftL (.node b (nearL (.node bk kl kr ks kh kc km kw)) r s (1 + max (highT (.node bk kl kr ks kh kc km kw)) (highT r)) (1 + manyT (.node bk kl kr ks kh kc km kw) + manyT r) (max (max s.b (farT (.node bk kl kr ks kh kc km kw))) (farT r)) 0) := by
              simp only [evenT]
              rw [if_pos (by omega)]
            have hnear : nearL (.node bk kl kr ks kh kc km kw) = liftR (downT (.node bk kl kr ks kh kc km kw)) := if_pos hgt
            have hgd := hGl.down
            obtain ⟨g1, g2, _⟩ := Good.sides hgd
            have hnm : moveT kw kr ≠ .nil := fun e => by
              rw [e] at hgt
              have := g1.tells.high
              change highT (moveT kw kl) < 0 at hgt
              omega
            have HNE := Lib.hid hnear
            have HEV := Lib.hid hev
            clear hev hnear
            go_upto_region 8 with (fail)
            refine region_pre 9 (fun _ => True) (by kernel_rfl) trivial (fun hHeld => ?_)
            refine pre_free 0 (v := ?_) rfl (by kernel_rfl) (by kernel_rfl) (by kernel_rfl) (by kernel_rfl) (fun _ _ _ h => h) (by rfl) (fun u => ?_) (by assumption) ?_
            rotate_left
            focus (go_simp; (try with_reducible rfl); done)
            try simp only [Act.put, List.setIfInBounds_toArray, List.set_cons_zero, List.set_cons_succ]
            refine pre_free 1 (v := ?_) rfl (by kernel_rfl) (by kernel_rfl) (by kernel_rfl) (by kernel_rfl) (fun _ _ _ h => h) (by rfl) (fun u => ?_) (by assumption) ?_
            rotate_left
            focus (go_simp; (try with_reducible rfl); done)
            try simp only [Act.put, List.setIfInBounds_toArray, List.set_cons_zero, List.set_cons_succ]
            refine pre_free 2 (v := ?_) rfl (by kernel_rfl) (by kernel_rfl) (by kernel_rfl) (by kernel_rfl) (fun _ _ _ h => h) (by rfl) (fun u => ?_) (by assumption) ?_
            rotate_left
            focus (go_simp; (try with_reducible rfl); done)
            try simp only [Act.put, List.setIfInBounds_toArray, List.set_cons_zero, List.set_cons_succ]
            refine pre_free 3 (v := ?_) rfl (by kernel_rfl) (by kernel_rfl) (by kernel_rfl) (by kernel_rfl) (fun _ _ _ h => h) (by rfl) (fun u => ?_) (by assumption) ?_
            rotate_left
            focus (go_simp; (try with_reducible rfl); done)
            try simp only [Act.put, List.setIfInBounds_toArray, List.set_cons_zero, List.set_cons_succ]
            refine pre_free 4 (v := ?_) rfl (by kernel_rfl) (by kernel_rfl) (by kernel_rfl) (by kernel_rfl) (fun _ _ _ h => h) (by rfl) (fun u => ?_) (by assumption) ?_
            rotate_left
            focus (go_simp; (try with_reducible rfl); done)
            try simp only [Act.put, List.setIfInBounds_toArray, List.set_cons_zero, List.set_cons_succ]
            refine pre_free 6 (v := ?_) rfl (by kernel_rfl) (by kernel_rfl) (by kernel_rfl) (by kernel_rfl) (fun _ _ _ h => h) (by rfl) (fun u => ?_) (by assumption) ?_
            rotate_left
            focus (go_simp; (try with_reducible rfl); done)
            try simp only [Act.put, List.setIfInBounds_toArray, List.set_cons_zero, List.set_cons_succ]
            refine pre_free 7 (v := ?_) rfl (by kernel_rfl) (by kernel_rfl) (by kernel_rfl) (by kernel_rfl) (fun _ _ _ h => h) (by rfl) (fun u => ?_) (by assumption) ?_
            rotate_left
            focus (go_simp; (try with_reducible rfl); done)
            try simp only [Act.put, List.setIfInBounds_toArray, List.set_cons_zero, List.set_cons_succ]
            refine pre_one 5 (by kernel_rfl) (by kernel_rfl) rfl (fun K hK => ?_)
            go_simp
            go_at_call 68
            refine (lift1_walk (b := bk) (r := moveT kw kl) (k := moveT kw kr) (s := ks) (h := kh) (c := kc) (m := km) (wt := 0) g2 g1 hnm w2.drew.drew (HK2.out.same rfl) (by show (blks (downT (.node bk kl kr ks kh kc km kw))).Nodup; rw [blks_down]; exact n3)).mono ?_
            rintro e w3 ⟨rfl, h3, ho3⟩
            have ho3' : Only (blks (Tr.node bk kl kr ks kh kc km kw)) w2 w3 := ((Only.refl _ w2).drew.drew).trans ho3 (fun x hx => .inl (by rw [← blks_down]; exact hx))
            have hb3 := ho3'.heap HB2.out (fun hm => n1 b hm rfl)
            have hr3 := HR2.out.only ho3' (fun x hx hm => n5 x hm hx)
            have f3 := frozen_of_heap hb3 3
            have e3 := cell_of_heap hb3 3
            have H3 := Lib.hid h3
            have HB3 := Lib.hid hb3
            have HR3 := Lib.hid hr3
            have HO3 := Lib.hid (HOw.out.trans ho3' (fun x hx => .inl (List.mem_cons_of_mem _ (List.mem_append.2 (.inl hx)))))
            clear h3 hb3 hr3 ho3 ho3'
            try go_simp
            refine hK.out _ _ trivial (fun _ => ?_)
            clear hK K
            try simp only [Act.put, List.setIfInBounds_toArray, List.set_cons_zero, List.set_cons_succ]
            refine pre_free 8 (v := ?_) rfl (by kernel_rfl) (by kernel_rfl) (by kernel_rfl) (by kernel_rfl) (fun _ _ _ h => h) (by rfl) (fun u => ?_) (by assumption) ?_
            rotate_left
            focus (go_simp; (try with_reducible rfl); done)
            try simp only [Act.put, List.setIfInBounds_toArray, List.set_cons_zero, List.set_cons_succ]
            refine pre_last (by kernel_rfl) rfl (fun K hK => ?_)
            go_simp
            refine hK.out _ _ ?_
            clear hK K
            try simp only [Act.put, List.setIfInBounds_toArray, List.set_cons_zero, List.set_cons_succ]
            refine aw_done (by kernel_rfl) ?_
            have hb4 := heap_setCell HB3.out 3 (ptrV (liftR (.node bk (moveT kw kl) (moveT kw kr) ks kh kc km 0)))
            have ho4 := (Only.refl [b] w3).setCell (p := ⟨b, 3, none⟩) (.inl (by simp)) (ptrV (liftR (.node bk (moveT kw kl) (moveT kw kr) ks kh kc km 0)))
            have hpn : (blks (liftR (.node bk (moveT kw kl) (moveT kw kr) ks kh kc km 0))).Perm (blks (Tr.node bk kl kr ks kh kc km kw)) := perm_liftR.trans (by show (blks (downT (.node bk kl kr ks kh kc km kw))).Perm _; rw [blks_down])
            have h4 := H3.out.only ho4 (fun x hx hm => n1 x (hpn.mem_iff.1 hx) (List.mem_singleton.1 hm))
            have hr4 := HR3.out.only ho4 (fun x hx hm => n2 x hx (List.mem_singleton.1 hm))
            have HO4 := Lib.hid (HO3.out.trans ho4 (fun x hx => .inl (by rw [List.mem_singleton.1 hx]; simp)))
            have hL4 : Lay _ (Tr.node b (liftR (.node bk (moveT kw kl) (moveT kw kr) ks kh kc km 0)) r s _ _ _ 0) := ⟨hb4, h4, hr4⟩
            have HL4 := Lib.hid hL4
            have HPN := Lib.hid hpn
            clear hb4 ho4 hpn h4 hr4 hL4
            generalize hw4 : w3.setCell ⟨b, 3, none⟩ (ptrV (liftR (.node bk (moveT kw kl) (moveT kw kr) ks kh kc km 0))) = w4 at *
            go_wp2_with fail
            have hE : evenT (.node b (.node bk kl kr ks kh kc km kw) r s hh c m 0) = liftL (.node b (liftR (.node bk (moveT kw kl) (moveT kw kr) ks kh kc km 0)) r s (1 + max (highT (.node bk kl kr ks kh kc km kw)) (highT r)) (1 + manyT (.node bk kl kr ks kh kc km kw) + manyT r) (max (max s.b (farT (.node bk kl kr ks kh kc km kw))) (farT r)) 0) := by rw [HEV.out, HNE.out]; rfl
            have hw5 := lift0_walk (b := b) (r := r) (k := liftR (.node bk (moveT kw kl) (moveT kw kr) ks kh kc km 0)) (s := s) (HNE.out ▸ hGl.nearL) hGr (by rw [show liftR (.node bk (moveT kw kl) (moveT kw kr) ks kh kc km 0) = nearL (.node bk kl kr ks kh kc km kw) from HNE.out.symm]; exact nearL_ne hne) w4 HL4.out ((List.Perm.cons _ (HPN.out.append_right _)).nodup_iff.2 hn)
            rw [← hE] at hw5
            refine hw5.mono ?_
            clear hw5 hE
            rintro e w5 ⟨rfl, hl5, ho5⟩
            have HL5 := Lib.hid hl5
            have HO5 := Lib.hid (HO4.out.trans ho5 (fun x hx => .inl ((List.Perm.cons _ (HPN.out.append_right _)).mem_iff.1 hx)))
            clear hl5 ho5
            go_wp2_with fail
            go_ret
            exact ⟨rfl, HL5.out, HO5.out⟩
          · have hev : evenT (.node b (.node bk kl kr ks kh kc km kw) r s hh c m 0) = liftL (.node b (nearL (.node bk kl kr ks kh kc km kw)) r s (1 + max (highT (.node bk kl kr ks kh kc km kw)) (highT r)) (1 + manyT (.node bk kl kr ks kh kc km kw) + manyT r) (max (max s.b (farT (.node bk kl kr ks kh kc km kw))) (farT r)) 0) := by
              simp only [evenT]
              rw [if_pos (by omega)]
            have hnear : nearL (.node bk kl kr ks kh kc km kw) = downT (.node bk kl kr ks kh kc km kw) := if_neg hgt
            have HNE := Lib.hid hnear
            have HEV := Lib.hid hev
            clear hev hnear
            go_wp2_with fail
            refine (lift0_walk (b := b) (r := r) (k := downT (.node bk kl kr ks kh kc km kw)) (s := s) hGl.down hGr (by show Tr.node _ _ _ _ _ _ _ _ ≠ _; simp) w2.drew (Lay.same (w := w2) ⟨HB2.out, HK2.out, HR2.out⟩ rfl) (by show (b :: (blks (downT (.node bk kl kr ks kh kc km kw)) ++ blks r)).Nodup; rw [blks_down]; exact hn)).mono ?_
            rintro e w5 ⟨rfl, hl5, ho5⟩
            have HL5 := Lib.hid hl5
            have HO5 := Lib.hid (HOw.out.drew.trans ho5 (by rw [blks_down]; exact fun x hx => .inl hx))
            clear hl5 ho5
            go_wp2_with fail
            go_ret
            rw [HEV.out, HNE.out]
            exact ⟨rfl, HL5.out, HO5.out⟩
    · go_upto_region 5 with (fail)
      refine region_hw (fun u => u = wr.drew) (by kernel_rfl) rfl (fun hHeld => ?_)
      refine hw_take 0 (v := ?_) rfl (by kernel_rfl) (by kernel_rfl) (by kernel_rfl) (fun _ _ _ h => h) (by rfl) (fun u hu => ?_) (by assumption) ?_
      rotate_left
      focus ((try dsimp only at hu); go_simp; (try with_reducible rfl); done)
      try simp only [Act.put, List.setIfInBounds_toArray, List.set_cons_zero, List.set_cons_succ]
      refine hw_take 2 (v := ?_) rfl (by kernel_rfl) (by kernel_rfl) (by kernel_rfl) (fun _ _ _ h => h) (by rfl) (fun u hu => ?_) (by assumption) ?_
      rotate_left
      focus ((try dsimp only at hu); go_simp; (try with_reducible rfl); done)
      try simp only [Act.put, List.setIfInBounds_toArray, List.set_cons_zero, List.set_cons_succ]
      refine hw_take 3 (v := ?_) rfl (by kernel_rfl) (by kernel_rfl) (by kernel_rfl) (fun _ _ _ h => h) (by rfl) (fun u hu => ?_) (by assumption) ?_
      rotate_left
      focus ((try dsimp only at hu); go_simp; (try with_reducible rfl); done)
      try simp only [Act.put, List.setIfInBounds_toArray, List.set_cons_zero, List.set_cons_succ]
      refine hw_take 4 (v := ?_) rfl (by kernel_rfl) (by kernel_rfl) (by kernel_rfl) (fun _ _ _ h => h) (by rfl) (fun u hu => ?_) (by assumption) ?_
      rotate_left
      focus ((try dsimp only at hu); go_simp; (try with_reducible rfl); done)
      try simp only [Act.put, List.setIfInBounds_toArray, List.set_cons_zero, List.set_cons_succ]
      refine hw_take 5 (v := ?_) rfl (by kernel_rfl) (by kernel_rfl) (by kernel_rfl) (fun _ _ _ h => h) (by rfl) (fun u hu => ?_) (by assumption) ?_
      rotate_left
      focus ((try dsimp only at hu); go_simp; (try with_reducible rfl); done)
      try simp only [Act.put, List.setIfInBounds_toArray, List.set_cons_zero, List.set_cons_succ]
      refine hw_take 6 (v := ?_) rfl (by kernel_rfl) (by kernel_rfl) (by kernel_rfl) (fun _ _ _ h => h) (by rfl) (fun u hu => ?_) (by assumption) ?_
      rotate_left
      focus ((try dsimp only at hu); go_simp; (try with_reducible rfl); done)
      try simp only [Act.put, List.setIfInBounds_toArray, List.set_cons_zero, List.set_cons_succ]
      refine hw_take 7 (v := ?_) rfl (by kernel_rfl) (by kernel_rfl) (by kernel_rfl) (fun _ _ _ h => h) (by rfl) (fun u hu => ?_) (by assumption) ?_
      rotate_left
      focus ((try dsimp only at hu); go_simp; (try with_reducible rfl); done)
      try simp only [Act.put, List.setIfInBounds_toArray, List.set_cons_zero, List.set_cons_succ]
      refine hw_take 8 (v := ?_) rfl (by kernel_rfl) (by kernel_rfl) (by kernel_rfl) (fun _ _ _ h => h) (by rfl) (fun u hu => ?_) (by assumption) ?_
      rotate_left
      focus ((try dsimp only at hu); go_simp; (try with_reducible rfl); done)
      try simp only [Act.put, List.setIfInBounds_toArray, List.set_cons_zero, List.set_cons_succ]
      refine hw_one 1 (by kernel_rfl) rfl (fun K hK => ?_)
      go_simp
      go_at_call 48
      refine (high_walk r _ (HR.out.same (w' := wr.drew) rfl)).mono ?_
      rintro e u1 ⟨rfl, eu1⟩
      have eu1 := eu1.symm
      subst eu1
      try go_simp
      refine hK.out _ _ (by first | rfl | assumption | trivial) (fun hHeld1 => ?_)
      clear hK K
      try simp only [Act.put, List.setIfInBounds_toArray, List.set_cons_zero, List.set_cons_succ]
      refine hw_one 9 (by kernel_rfl) rfl (fun K hK => ?_)
      go_simp
      go_at_call 48
      refine (high_walk l _ (HL.out.same (w' := wr.drew) rfl)).mono ?_
      rintro e u9 ⟨rfl, eu9⟩
      have eu9 := eu9.symm
      subst eu9
      try go_simp
      refine hK.out _ _ (by first | rfl | assumption | trivial) (fun hHeld9 => ?_)
      clear hK K
      try simp only [Act.put, List.setIfInBounds_toArray, List.set_cons_zero, List.set_cons_succ]
      refine hw_take 10 (v := ?_) rfl (by kernel_rfl) (by kernel_rfl) (by kernel_rfl) (fun _ _ _ h => h) (by rfl) (fun u hu => ?_) (by assumption) ?_
      rotate_left
      focus ((try dsimp only at hu); go_simp; (try with_reducible rfl); done)
      try simp only [Act.put, List.setIfInBounds_toArray, List.set_cons_zero, List.set_cons_succ]
      refine hw_take 11 (v := ?_) rfl (by kernel_rfl) (by kernel_rfl) (by kernel_rfl) (fun _ _ _ h => h) (by rfl) (fun u hu => ?_) (by assumption) ?_
      rotate_left
      focus ((try dsimp only at hu); go_simp; (try with_reducible rfl); done)
      try simp only [Act.put, List.setIfInBounds_toArray, List.set_cons_zero, List.set_cons_succ]
      refine hw_done (by kernel_rfl) ?_
      by_cases hle : highT r ≤ highT l + 1
      · go_wp2_with fail
        go_roundw
        case rel => exact ⟨2, by omega, by first | rfl | go_num, HH.out, grownBy_drew HG.out, fun _ => hi1 (by omega), fun _ => hle⟩
        case measure => simp [RowKit.intOf]
      · have hne : r ≠ .nil := fun e => hle (by rw [e]; have := hGl.tells.high; show (0 : Int) ≤ _; omega)
        cases r with
        | nil => exact absurd rfl hne
        | node bk kl kr ks kh kc km kw =>
          go_wp2_with fail
          refine (down0_walk _ hGr (HR.out.same (w' := wr.drew) rfl) n4).mono ?_
          rintro e w2 ⟨rfl, hk2, ho2⟩
          have hkb := lay_cells hk2
          have d3 := cell_of_heap hkb 3
          have d4 := cell_of_heap hkb 4
          have HK2 := Lib.hid hk2
          have HKL := Lib.hid hk2.2.1
          have HKR := Lib.hid hk2.2.2
          have HO2 := Lib.hid ho2
          have hb2 := HO2.out.heap (show wr.drew.heap[b]? = _ from (congrArg (fun h => h[b]?) HH.out).trans HB1.out) (fun hm => n2 b hm rfl)
          have hr2 := Lay.only (HL.out.same (w' := wr.drew) rfl) HO2.out (fun x hx hm => n5 x hx hm)
          have HB2 := Lib.hid hb2
          have HR2 := Lib.hid hr2
          have HOw := Lib.hid (HOr.out.drew.trans ho2 (fun x hx => .inl (List.mem_cons_of_mem _ (List.mem_append.2 (.inr hx)))))
          clear hkb hk2 ho2 hb2 hr2
          go_upto_region 7 with (fail)
          have hpk : ptrV (Tr.node bk kl kr ks kh kc km kw) = .pointer (some ⟨bk, 0, none⟩) := rfl
          rw [hpk]
          refine region_hw (fun u => u = w2.drew) (by kernel_rfl) rfl (fun hHeld => ?_)
          refine hw_take 0 (v := ?_) rfl (by kernel_rfl) (by kernel_rfl) (by kernel_rfl) (fun _ _ _ h => h) (by rfl) (fun u hu => ?_) (by assumption) ?_
          rotate_left
          focus ((try dsimp only at hu); go_simp; (try with_reducible rfl); done)
          try simp only [Act.put, List.setIfInBounds_toArray, List.set_cons_zero, List.set_cons_succ]
          refine hw_take 1 (v := ?_) rfl (by kernel_rfl) (by kernel_rfl) (by kernel_rfl) (fun _ _ _ h => h) (by rfl) (fun u hu => ?_) (by assumption) ?_
          rotate_left
          focus ((try dsimp only at hu); go_simp; (try with_reducible rfl); done)
          try simp only [Act.put, List.setIfInBounds_toArray, List.set_cons_zero, List.set_cons_succ]
          refine hw_take 2 (v := ?_) rfl (by kernel_rfl) (by kernel_rfl) (by kernel_rfl) (fun _ _ _ h => h) (by rfl) (fun u hu => ?_) (by assumption) ?_
          rotate_left
          focus ((try dsimp only at hu); go_simp; (try with_reducible rfl); done)
          try simp only [Act.put, List.setIfInBounds_toArray, List.set_cons_zero, List.set_cons_succ]
          refine hw_take 3 (v := ?_) rfl (by kernel_rfl) (by kernel_rfl) (by kernel_rfl) (fun _ _ _ h => h) (by rfl) (fun u hu => ?_) (by assumption) ?_
          rotate_left
          focus ((try dsimp only at hu); go_simp; (try with_reducible rfl); done)
          try simp only [Act.put, List.setIfInBounds_toArray, List.set_cons_zero, List.set_cons_succ]
          refine hw_take 4 (v := ?_) rfl (by kernel_rfl) (by kernel_rfl) (by kernel_rfl) (fun _ _ _ h => h) (by rfl) (fun u hu => ?_) (by assumption) ?_
          rotate_left
          focus ((try dsimp only at hu); go_simp; (try with_reducible rfl); done)
          try simp only [Act.put, List.setIfInBounds_toArray, List.set_cons_zero, List.set_cons_succ]
          refine hw_take 5 (v := ?_) rfl (by kernel_rfl) (by kernel_rfl) (by kernel_rfl) (fun _ _ _ h => h) (by rfl) (fun u hu => ?_) (by assumption) ?_
          rotate_left
          focus ((try dsimp only at hu); go_simp; (try with_reducible rfl); done)
          try simp only [Act.put, List.setIfInBounds_toArray, List.set_cons_zero, List.set_cons_succ]
          refine hw_take 6 (v := ?_) rfl (by kernel_rfl) (by kernel_rfl) (by kernel_rfl) (fun _ _ _ h => h) (by rfl) (fun u hu => ?_) (by assumption) ?_
          rotate_left
          focus ((try dsimp only at hu); go_simp; (try with_reducible rfl); done)
          try simp only [Act.put, List.setIfInBounds_toArray, List.set_cons_zero, List.set_cons_succ]
          refine hw_take 8 (v := ?_) rfl (by kernel_rfl) (by kernel_rfl) (by kernel_rfl) (fun _ _ _ h => h) (by rfl) (fun u hu => ?_) (by assumption) ?_
          rotate_left
          focus ((try dsimp only at hu); go_simp; (try with_reducible rfl); done)
          try simp only [Act.put, List.setIfInBounds_toArray, List.set_cons_zero, List.set_cons_succ]
          refine hw_take 9 (v := ?_) rfl (by kernel_rfl) (by kernel_rfl) (by kernel_rfl) (fun _ _ _ h => h) (by rfl) (fun u hu => ?_) (by assumption) ?_
          rotate_left
          focus ((try dsimp only at hu); go_simp; (try with_reducible rfl); done)
          try simp only [Act.put, List.setIfInBounds_toArray, List.set_cons_zero, List.set_cons_succ]
          refine hw_take 10 (v := ?_) rfl (by kernel_rfl) (by kernel_rfl) (by kernel_rfl) (fun _ _ _ h => h) (by rfl) (fun u hu => ?_) (by assumption) ?_
          rotate_left
          focus ((try dsimp only at hu); go_simp; (try with_reducible rfl); done)
          try simp only [Act.put, List.setIfInBounds_toArray, List.set_cons_zero, List.set_cons_succ]
          refine hw_take 11 (v := ?_) rfl (by kernel_rfl) (by kernel_rfl) (by kernel_rfl) (fun _ _ _ h => h) (by rfl) (fun u hu => ?_) (by assumption) ?_
          rotate_left
          focus ((try dsimp only at hu); go_simp; (try with_reducible rfl); done)
          try simp only [Act.put, List.setIfInBounds_toArray, List.set_cons_zero, List.set_cons_succ]
          refine hw_take 12 (v := ?_) rfl (by kernel_rfl) (by kernel_rfl) (by kernel_rfl) (fun _ _ _ h => h) (by rfl) (fun u hu => ?_) (by assumption) ?_
          rotate_left
          focus ((try dsimp only at hu); go_simp; (try with_reducible rfl); done)
          try simp only [Act.put, List.setIfInBounds_toArray, List.set_cons_zero, List.set_cons_succ]
          refine hw_take 13 (v := ?_) rfl (by kernel_rfl) (by kernel_rfl) (by kernel_rfl) (fun _ _ _ h => h) (by rfl) (fun u hu => ?_) (by assumption) ?_
          rotate_left
          focus ((try dsimp only at hu); go_simp; (try with_reducible rfl); done)
          try simp only [Act.put, List.setIfInBounds_toArray, List.set_cons_zero, List.set_cons_succ]
          refine hw_one 7 (by kernel_rfl) rfl (fun K hK => ?_)
          go_simp
          go_at_call 48
          refine (high_walk (moveT kw kl) _ (HKL.out.same (w' := w2.drew) rfl)).mono ?_
          rintro e u7 ⟨rfl, eu7⟩
          have eu7 := eu7.symm
          subst eu7
          try go_simp
          refine hK.out _ _ (by first | rfl | assumption | trivial) (fun hHeld7 => ?_)
          clear hK K
          try simp only [Act.put, List.setIfInBounds_toArray, List.set_cons_zero, List.set_cons_succ]
          refine hw_one 14 (by kernel_rfl) rfl (fun K hK => ?_)
          go_simp
          go_at_call 48
          refine (high_walk (moveT kw kr) _ (HKR.out.same (w' := w2.drew) rfl)).mono ?_
          rintro e u14 ⟨rfl, eu14⟩
          have eu14 := eu14.symm
          subst eu14
          try go_simp
          refine hK.out _ _ (by first | rfl | assumption | trivial) (fun hHeld14 => ?_)
          clear hK K
          try simp only [Act.put, List.setIfInBounds_toArray, List.set_cons_zero, List.set_cons_succ]
          refine hw_take 15 (v := ?_) rfl (by kernel_rfl) (by kernel_rfl) (by kernel_rfl) (fun _ _ _ h => h) (by rfl) (fun u hu => ?_) (by assumption) ?_
          rotate_left
          focus ((try dsimp only at hu); go_simp; (try with_reducible rfl); done)
          try simp only [Act.put, List.setIfInBounds_toArray, List.set_cons_zero, List.set_cons_succ]
          refine hw_done (by kernel_rfl) ?_
          by_cases hgt : highT (moveT kw kr) < highT (moveT kw kl)
          · have hev : evenT (.node b l (.node bk kl kr ks kh kc km kw) s hh c m 0) = liftR (.node b l (nearR (.node bk kl kr ks kh kc km kw)) s (1 + max (highT l) (highT (.node bk kl kr ks kh kc km kw))) (1 + manyT l + manyT (.node bk kl kr ks kh kc km kw)) (max (max s.b (farT l)) (farT (.node bk kl kr ks kh kc km kw))) 0) := by
              simp only [evenT]
              rw [if_neg (by have := hi1 (by omega); omega), if_pos (by omega)]
            have hnear : nearR (.node bk kl kr ks kh kc km kw) = liftL (downT (.node bk kl kr ks kh kc km kw)) := if_pos hgt
            have hgd := hGr.down
            obtain ⟨g1, g2, _⟩ := Good.sides hgd
            have hnm : moveT kw kl ≠ .nil := fun e => by
              rw [e] at hgt
              have := g2.tells.high
              change highT (moveT kw kr) < 0 at hgt
              omega
            have HNE := Lib.hid hnear
            have HEV := Lib.hid hev
            clear hev hnear
            go_upto_region 8 with (fail)
            refine region_pre 9 (fun _ => True) (by kernel_rfl) trivial (fun hHeld => ?_)
            refine pre_free 0 (v := ?_) rfl (by kernel_rfl) (by kernel_rfl) (by kernel_rfl) (by kernel_rfl) (fun _ _ _ h => h) (by rfl) (fun u => ?_) (by assumption) ?_
            rotate_left
            focus (go_simp; (try with_reducible rfl); done)
            try simp only [Act.put, List.setIfInBounds_toArray, List.set_cons_zero, List.set_cons_succ]
            refine pre_free 1 (v := ?_) rfl (by kernel_rfl) (by kernel_rfl) (by kernel_rfl) (by kernel_rfl) (fun _ _ _ h => h) (by rfl) (fun u => ?_) (by assumption) ?_
            rotate_left
            focus (go_simp; (try with_reducible rfl); done)
            try simp only [Act.put, List.setIfInBounds_toArray, List.set_cons_zero, List.set_cons_succ]
            refine pre_free 2 (v := ?_) rfl (by kernel_rfl) (by kernel_rfl) (by kernel_rfl) (by kernel_rfl) (fun _ _ _ h => h) (by rfl) (fun u => ?_) (by assumption) ?_
            rotate_left
            focus (go_simp; (try with_reducible rfl); done)
            try simp only [Act.put, List.setIfInBounds_toArray, List.set_cons_zero, List.set_cons_succ]
            refine pre_free 3 (v := ?_) rfl (by kernel_rfl) (by kernel_rfl) (by kernel_rfl) (by kernel_rfl) (fun _ _ _ h => h) (by rfl) (fun u => ?_) (by assumption) ?_
            rotate_left
            focus (go_simp; (try with_reducible rfl); done)
            try simp only [Act.put, List.setIfInBounds_toArray, List.set_cons_zero, List.set_cons_succ]
            refine pre_free 4 (v := ?_) rfl (by kernel_rfl) (by kernel_rfl) (by kernel_rfl) (by kernel_rfl) (fun _ _ _ h => h) (by rfl) (fun u => ?_) (by assumption) ?_
            rotate_left
            focus (go_simp; (try with_reducible rfl); done)
            try simp only [Act.put, List.setIfInBounds_toArray, List.set_cons_zero, List.set_cons_succ]
            refine pre_free 6 (v := ?_) rfl (by kernel_rfl) (by kernel_rfl) (by kernel_rfl) (by kernel_rfl) (fun _ _ _ h => h) (by rfl) (fun u => ?_) (by assumption) ?_
            rotate_left
            focus (go_simp; (try with_reducible rfl); done)
            try simp only [Act.put, List.setIfInBounds_toArray, List.set_cons_zero, List.set_cons_succ]
            refine pre_free 7 (v := ?_) rfl (by kernel_rfl) (by kernel_rfl) (by kernel_rfl) (by kernel_rfl) (fun _ _ _ h => h) (by rfl) (fun u => ?_) (by assumption) ?_
            rotate_left
            focus (go_simp; (try with_reducible rfl); done)
            try simp only [Act.put, List.setIfInBounds_toArray, List.set_cons_zero, List.set_cons_succ]
            refine pre_one 5 (by kernel_rfl) (by kernel_rfl) rfl (fun K hK => ?_)
            go_simp
            go_at_call 68
            refine (lift0_walk (b := bk) (r := moveT kw kr) (k := moveT kw kl) (s := ks) (h := kh) (c := kc) (m := km) (wt := 0) g1 g2 hnm w2.drew.drew (HK2.out.same rfl) (by show (blks (downT (.node bk kl kr ks kh kc km kw))).Nodup; rw [blks_down]; exact n4)).mono ?_
            rintro e w3 ⟨rfl, h3, ho3⟩
            have ho3' : Only (blks (Tr.node bk kl kr ks kh kc km kw)) w2 w3 := ((Only.refl _ w2).drew.drew).trans ho3 (fun x hx => .inl (by rw [← blks_down]; exact hx))
            have hb3 := ho3'.heap HB2.out (fun hm => n2 b hm rfl)
            have hr3 := HR2.out.only ho3' (fun x hx hm => n5 x hx hm)
            have f3 := frozen_of_heap hb3 4
            have e3 := cell_of_heap hb3 4
            have H3 := Lib.hid h3
            have HB3 := Lib.hid hb3
            have HR3 := Lib.hid hr3
            have HO3 := Lib.hid (HOw.out.trans ho3' (fun x hx => .inl (List.mem_cons_of_mem _ (List.mem_append.2 (.inr hx)))))
            clear h3 hb3 hr3 ho3 ho3'
            try go_simp
            refine hK.out _ _ trivial (fun _ => ?_)
            clear hK K
            try simp only [Act.put, List.setIfInBounds_toArray, List.set_cons_zero, List.set_cons_succ]
            refine pre_free 8 (v := ?_) rfl (by kernel_rfl) (by kernel_rfl) (by kernel_rfl) (by kernel_rfl) (fun _ _ _ h => h) (by rfl) (fun u => ?_) (by assumption) ?_
            rotate_left
            focus (go_simp; (try with_reducible rfl); done)
            try simp only [Act.put, List.setIfInBounds_toArray, List.set_cons_zero, List.set_cons_succ]
            refine pre_last (by kernel_rfl) rfl (fun K hK => ?_)
            go_simp
            refine hK.out _ _ ?_
            clear hK K
            try simp only [Act.put, List.setIfInBounds_toArray, List.set_cons_zero, List.set_cons_succ]
            refine aw_done (by kernel_rfl) ?_
            have hb4 := heap_setCell HB3.out 4 (ptrV (liftL (.node bk (moveT kw kl) (moveT kw kr) ks kh kc km 0)))
            have ho4 := (Only.refl [b] w3).setCell (p := ⟨b, 4, none⟩) (.inl (by simp)) (ptrV (liftL (.node bk (moveT kw kl) (moveT kw kr) ks kh kc km 0)))
            have hpn : (blks (liftL (.node bk (moveT kw kl) (moveT kw kr) ks kh kc km 0))).Perm (blks (Tr.node bk kl kr ks kh kc km kw)) := perm_liftL.trans (by show (blks (downT (.node bk kl kr ks kh kc km kw))).Perm _; rw [blks_down])
            have h4 := H3.out.only ho4 (fun x hx hm => n2 x (hpn.mem_iff.1 hx) (List.mem_singleton.1 hm))
            have hr4 := HR3.out.only ho4 (fun x hx hm => n1 x hx (List.mem_singleton.1 hm))
            have HO4 := Lib.hid (HO3.out.trans ho4 (fun x hx => .inl (by rw [List.mem_singleton.1 hx]; simp)))
            have hL4 : Lay _ (Tr.node b l (liftL (.node bk (moveT kw kl) (moveT kw kr) ks kh kc km 0)) s _ _ _ 0) := ⟨hb4, hr4, h4⟩
            have HL4 := Lib.hid hL4
            have HPN := Lib.hid hpn
            clear hb4 ho4 hpn h4 hr4 hL4
            generalize hw4 : w3.setCell ⟨b, 4, none⟩ (ptrV (liftL (.node bk (moveT kw kl) (moveT kw kr) ks kh kc km 0))) = w4 at *
            go_wp2_with fail
            have hE : evenT (.node b l (.node bk kl kr ks kh kc km kw) s hh c m 0) = liftR (.node b l (liftL (.node bk (moveT kw kl) (moveT kw kr) ks kh kc km 0)) s (1 + max (highT l) (highT (.node bk kl kr ks kh kc km kw))) (1 + manyT l + manyT (.node bk kl kr ks kh kc km kw)) (max (max s.b (farT l)) (farT (.node bk kl kr ks kh kc km kw))) 0) := by rw [HEV.out, HNE.out]; rfl
            have hw5 := lift1_walk (b := b) (r := l) (k := liftL (.node bk (moveT kw kl) (moveT kw kr) ks kh kc km 0)) (s := s) (HNE.out ▸ hGr.nearR) hGl (by rw [show liftL (.node bk (moveT kw kl) (moveT kw kr) ks kh kc km 0) = nearR (.node bk kl kr ks kh kc km kw) from HNE.out.symm]; exact nearR_ne hne) w4 HL4.out ((List.Perm.cons _ (HPN.out.append_left _)).nodup_iff.2 hn)
            rw [← hE] at hw5
            refine hw5.mono ?_
            clear hw5 hE
            rintro e w5 ⟨rfl, hl5, ho5⟩
            have HL5 := Lib.hid hl5
            have HO5 := Lib.hid (HO4.out.trans ho5 (fun x hx => .inl ((List.Perm.cons _ (HPN.out.append_left _)).mem_iff.1 hx)))
            clear hl5 ho5
            go_wp2_with fail
            go_ret
            exact ⟨rfl, HL5.out, HO5.out⟩
          · have hev : evenT (.node b l (.node bk kl kr ks kh kc km kw) s hh c m 0) = liftR (.node b l (nearR (.node bk kl kr ks kh kc km kw)) s (1 + max (highT l) (highT (.node bk kl kr ks kh kc km kw))) (1 + manyT l + manyT (.node bk kl kr ks kh kc km kw)) (max (max s.b (farT l)) (farT (.node bk kl kr ks kh kc km kw))) 0) := by
              simp only [evenT]
              rw [if_neg (by have := hi1 (by omega); omega), if_pos (by omega)]
            have hnear : nearR (.node bk kl kr ks kh kc km kw) = downT (.node bk kl kr ks kh kc km kw) := if_neg hgt
            have HNE := Lib.hid hnear
            have HEV := Lib.hid hev
            clear hev hnear
            go_wp2_with fail
            refine (lift1_walk (b := b) (r := l) (k := downT (.node bk kl kr ks kh kc km kw)) (s := s) hGr.down hGl (by show Tr.node _ _ _ _ _ _ _ _ ≠ _; simp) w2.drew (Lay.same (w := w2) ⟨HB2.out, HR2.out, HK2.out⟩ rfl) (by show (b :: (blks l ++ blks (downT (.node bk kl kr ks kh kc km kw)))).Nodup; rw [blks_down]; exact hn)).mono ?_
            rintro e w5 ⟨rfl, hl5, ho5⟩
            have HL5 := Lib.hid hl5
            have HO5 := Lib.hid (HOw.out.drew.trans ho5 (by rw [blks_down]; exact fun x hx => .inl hx))
            clear hl5 ho5
            go_wp2_with fail
            go_ret
            rw [HEV.out, HNE.out]
            exact ⟨rfl, HL5.out, HO5.out⟩
    · have hev : evenT (.node b l r s hh c m 0) = toldT (.node b l r s hh c m 0) := by
        simp only [evenT]
        rw [if_neg (by have := hi1 (by omega); omega), if_neg (by have := hi2 (by omega); omega)]
      have HEV := Lib.hid hev
      clear hev
      go_wp2_with fail
      go_ret
      rw [HEV.out]
      exact ⟨rfl, H1.out.same HH.out, HOr.out⟩
end Go.Proofs.Ytijpienjejfmiaa
