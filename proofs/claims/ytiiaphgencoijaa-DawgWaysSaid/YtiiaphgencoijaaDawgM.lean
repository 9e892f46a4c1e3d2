/-
  Layer 15's laws: all: the walk. Conditions: few steps, a short beginning, few words so far.
-/
import Derived.Test.YtiiaphgencoijaaDawgL
namespace Go.Proofs.Ytiiaphgencoijaa
open Go Go.RowKit Go.Maps

theorem bytes_append (s t : Wd) : (⟨s.toArray⟩ : ByteArray) ++ ⟨t.toArray⟩ = ⟨(s ++ t).toArray⟩ := by
  apply ByteArray.ext
  simp

theorem str_info : (Try.prog.info? 9).map (fun i => (i.zero, i.size, i.bytes)) = some (some (.string ⟨#[]⟩), 1, 16) := by kernel_rfl

theorem strCells_one' (ss : List Wd) : ∀ x ∈ strCells ss, x.oneCell' = true := by
  intro x hx
  simp only [strCells, List.mem_map] at hx
  obtain ⟨_, _, rfl⟩ := hx
  rfl

/-- A row of words: the call's own, of blocks from base on; what may have been written since w. -/
def OwnW (base : Nat) (w : World) (r : Option Nat) (o : Value) (oo : List Wd) (wx : World) : Prop :=
  ∃ A n c, o = .slice A n c ∧ oo.length = n ∧ wx.ownsRow base 9 1 (.slice A n c) n (strCells oo) ∧ w.grownBy wx r ∧ ∀ b, (Value.slice A n c).ownBlock = some b → r = some b ∨ w.heap.size ≤ b

def stepA (sts : List DSt) (k : Nat) (i : Int) (head : Wd) (o : List Wd) (c : UInt8) : List Wd := match nextS sts i c with | some j => allS sts k j (head ++ [c]) o | none => o

def AllDoes (k : Nat) : Prop := ∀ (Y : Nat → Prop) (B M base0 : Nat) (lv : Value) (start : Int) (sts : List DSt) (w0 : World), Bd w0 Y B M base0 lv start sts → ∀ (i : Int) (head : Wd) (out : List Wd) (A : Option Addr) (n c base : Nat) (w : World),
  w0.grownBy w none → out.length = n → w.ownsRow base 9 1 (.slice A n c) n (strCells out) → w0.heap.size ≤ base → base ≤ w.heap.size → head.length + k ≤ 1000 → k ≤ 20 → out.length ≤ 10000 → ∀ ks : Int, ks = k →
  Calls Try.prog 35 #[.pointer (some ⟨B, 0, none⟩), .int .i64 i, .string ⟨head.toArray⟩, .slice A n c, .int .i64 ks] w
    fun e w' => ∃ v, e = .returned v ∧ OwnW base w (Value.slice A n c).ownBlock v (allS sts k i head out) w'

set_option maxRecDepth 100000 in
set_option maxHeartbeats 1000000 in
theorem all_step (k : Nat) (ih : ∀ k', k = k' + 1 → AllDoes k') : AllDoes k := by
  intro Y B M base0 lv start sts w0 h i head out A n c base w hg0 hon how hb0 hbw hhk hk hol ks hks
  obtain ⟨i0, hi, hz0, hz1, hz2⟩ := info_parts str_info
  have H := Lib.hid h
  have HOW := Lib.hid how
  have HON := Lib.hid hon
  have HG0 := Lib.hid hg0
  have hn : n ≤ 10000 := by omega
  have HKS := Lib.hid hks
  have hkr : 0 ≤ ks ∧ ks ≤ 20 := by omega
  clear h how hon hg0 hks
  go_enter Try.func35, Try.ntmps35
  go_wp2_with fail
  refine (final_walk Y B M base0 lv start sts i w (H.out.kept HG0.out)).mono ?_
  rintro e w1 ⟨rfl, hg1⟩
  have hs1 := hg1.size
  generalize hf : (stAt sts i).1 = f
  have HF := Lib.hid hf
  have HG1 := Lib.hid hg1
  clear hf hg1
  go_upto_if 17 with (fail)
  obtain ⟨o1, ho1⟩ : ∃ o1, o1 = (if f then out ++ [head] else out) := ⟨_, rfl⟩
  have HO1 := Lib.hid ho1
  clear ho1
  go_cut [3] (fun o wx => OwnW base w (Value.slice A n c).ownBlock o o1 wx)
  case first =>
    cases f
    · go_wp2_with fail
      go_meet
      have e1 : o1 = out := HO1.out
      rw [e1]
      exact ⟨A, n, c, rfl, HON.out, ownsRow_kept HOW.out HG1.out (own_none _), grownBy_trans (grownBy_refl w _) HG1.out nofun, fun b hb => .inl hb⟩
    · have how1 := ownsRow_kept HOW.out HG1.out (own_none _)
      have hal := World.grownBy_alloc w1 (.cells #[.string ⟨head.toArray⟩] 9) none
      have how2 := Lib.hid (ownsRow_kept how1 hal (own_none _))
      have hsl := Lib.hid (Sl.of_own (World.ownsRow_lit (base := 0) (size := 1) (e := 9) w1 #[.string ⟨head.toArray⟩] 1 (Nat.zero_le _) (by decide) rfl) (by intro x hx; simp at hx; subst hx; rfl))
      have HAL := Lib.hid hal
      clear how1 hal
      go_wp2_with (at_builtin; refine wpList_append_sl _ rfl (.tmp 18) (.tmp 20) 44 rfl base 9 i0 _ 1 16 Try.underlying44 hi hz0 hz1 hz2 rfl (by decide) (.slice A n c) n _ rfl how2.out (some ⟨w1.heap.size, 0, none⟩) 1 1 _ rfl hsl.out (by unfold maxLen; omega) (by omega) (by simp; omega) ?_)
      rintro v3 w3 ⟨hown3, hg3, hat3⟩
      obtain ⟨A3, c3, rfl⟩ := own_slice hown3
      go_wp2_with fail
      go_meet
      have e1 : o1 = out ++ [head] := HO1.out
      rw [e1]
      refine ⟨A3, n + 1, c3, rfl, by simp [HON.out], by rw [strCells, List.map_append]; exact hown3, grownBy_trans (grownBy_trans (grownBy_trans (grownBy_refl w _) HG1.out nofun) HAL.out nofun) hg3 (fun b hb => .inl hb), fun b hb => ?_⟩
      rcases hat3 with e | e
      · exact .inl (e ▸ hb)
      · rw [e] at hb; simp at hb; exact .inr (by omega)
  case rest =>
    obtain ⟨A1, n1, c1, rfl, hn1, ho1, hg, hblk⟩ := hcut
    have hes : allS sts k i head out = (if k = 0 ∨ 100 < n1 then o1 else ((stAt sts i).2.map (·.1)).foldl (stepA sts (k - 1) i head) o1) := by
      have e0 : o1 = (if (stAt sts i).1 = true then out ++ [head] else out) := by rw [HF.out]; exact HO1.out
      cases k with
      | zero => simp only [true_or, if_true]; rw [e0]; rfl
      | succ k =>
        rw [← hn1, e0]
        simp only [allS, Nat.add_one_ne_zero, false_or, Nat.add_sub_cancel]
        rfl
    have HES := Lib.hid hes
    have HN1 := Lib.hid hn1
    have HO := Lib.hid ho1
    have HG := Lib.hid hg
    have HB := Lib.hid hblk
    clear hes ho1 hg hblk hn1
    by_cases hstop : k = 0 ∨ 100 < n1
    · have e1 := HES.out
      rw [if_pos hstop] at e1
      have HE1 := Lib.hid e1
      clear e1
      by_cases h0 : k = 0
      · obtain rfl : ks = 0 := by have := HKS.out; omega
        go_wp2_with fail
        go_ret
        rw [HE1.out]
        exact ⟨_, rfl, A1, n1, c1, rfl, HN1.out, HO.out, HG.out, HB.out⟩
      · have hk0 : (ks == 0) = false := by rw [beq_eq_false_iff_ne]; have := HKS.out; omega
        have hk1 : ¬ ks = 0 := by have := HKS.out; omega
        have hb1 : 100 < n1 := by omega
        go_wp2_with fail
        go_ret
        rw [HE1.out]
        exact ⟨_, rfl, A1, n1, c1, rfl, HN1.out, HO.out, HG.out, HB.out⟩
    · have hk0 : (ks == 0) = false := by rw [beq_eq_false_iff_ne]; have := HKS.out; omega
      have hk1 : ¬ ks = 0 := by have := HKS.out; omega
      have hb1 : ¬ 100 < n1 := by omega
      obtain ⟨k', rfl⟩ : ∃ k', k = k' + 1 := ⟨k - 1, by omega⟩
      have e1 := HES.out
      rw [if_neg hstop, Nat.add_sub_cancel] at e1
      have HE1 := Lib.hid e1
      have hg0c : w0.grownBy wc none := grownBy_trans HG0.out HG.out (fun b hb => .inr (by have := (HOW.out.lt b hb).1; omega))
      have hwc := HG.out.size
      have HG0C := Lib.hid hg0c
      have hsm : ∀ s ∈ sts, s.2.length ≤ 256 := fun s hs => (H.out.small s hs).1
      have HSM := Lib.hid hsm
      have hst : (stAt sts i).2.length ≤ 256 := by
        unfold stAt
        split
        · simp
        · rcases hh : sts[i.toNat]? with _ | s
          · simp
          · exact hsm s (List.mem_of_getElem? hh)
      clear e1 hg0c hsm
      go_wp2_with fail
      refine (out_walk Y B M base0 lv start sts i wc (H.out.kept HG0C.out)).mono ?_
      rintro e w5 ⟨OA, oc, rfl, hoo, hg5⟩
      have hs5 := hg5.size
      obtain ⟨cs, hcs⟩ : ∃ cs, (stAt sts i).2.map (·.1) = cs := ⟨_, rfl⟩
      have hcl : (stAt sts i).2.length = cs.length := by rw [← hcs]; simp
      rw [hcs] at hoo
      rw [hcl] at hst hoo
      rw [hcl]
      have HE2 := Lib.hid (hcs ▸ HE1.out)
      have HOO := Lib.hid hoo
      have HOS := Lib.hid (Sl.of_own hoo (byteCells_one cs))
      have HG5 := Lib.hid hg5
      have HO5 := Lib.hid (ownsRow_kept HO.out hg5 (own_none _))
      have hlo : ∀ b, (Value.slice A1 n1 c1).ownBlock = some b → b < wc.heap.size := fun b hb => (HO.out.lt b hb).2
      have HLO := Lib.hid hlo
      clear hoo hg5 hcs hcl hlo
      go_wp2_with fail
      go_loopw [3, 34] (fun o idx wx => ∃ (m : Nat) (oo : List Wd), m ≤ cs.length ∧ idx = .int .i64 m ∧ OwnW base w5 (Value.slice A1 n1 c1).ownBlock o oo wx ∧ (cs.drop m).foldl (stepA sts k' i head) oo = cs.foldl (stepA sts k' i head) o1 ∧ oo.length ≤ 101 + 256 * k' + m) (fun _ idx _ => cs.length - (intOf idx).toNat)
      case atStart => exact ⟨0, o1, Nat.zero_le _, rfl, ⟨A1, n1, c1, rfl, HN1.out, HO5.out, grownBy_refl _ _, fun b hb => .inl hb⟩, rfl, by have := HN1.out; omega⟩
      case round =>
        obtain ⟨m, oo, hm, rfl, ⟨A2, n2, c2, rfl, hn2, ho2, hg2, hblk2⟩, hfold, hbound⟩ := hrel
        have HO2 := Lib.hid ho2
        have HG2 := Lib.hid hg2
        have HN2 := Lib.hid hn2
        have HB2 := Lib.hid hblk2
        have HFO := Lib.hid hfold
        have hs2 := hg2.size
        have hbn : n2 ≤ 101 + 256 * k' + m := by omega
        clear ho2 hg2 hn2 hblk2 hfold
        rcases Nat.lt_or_ge m cs.length with hlt | hge
        · obtain ⟨cb, hcb⟩ : ∃ cb, cs[m]? = some cb := ⟨_, List.getElem?_eq_getElem hlt⟩
          have hsl := HOS.out.kept HG2.out (fun b hb => by
            have h1 := HLO.out b hb
            intro _ a ha
            obtain ⟨q, _, hv, _, hq, _⟩ := own_form HOO.out (by omega)
            cases hv; cases ha
            show q ≠ b
            omega)
          obtain ⟨qb, ob, rfl, hcc⟩ := hsl.2.2 (by omega)
          have hcm := hcc m (.int .u8 cb.toNat) (by simp [Lib.byteCells, hcb])
          have HCB := Lib.hid hcb
          have hg0x : w0.grownBy wr none := grownBy_trans (grownBy_trans HG0C.out HG5.out nofun) HG2.out (fun b hb => .inr (by have := (HO.out.lt b hb).1; omega))
          have HGX := Lib.hid hg0x
          clear hcc hsl hcb hg0x
          go_wp2_with fail
          refine (next_walk Y B M base0 lv start sts i cb wr (H.out.kept HGX.out)).mono ?_
          rintro e w6 ⟨rfl, hg6⟩
          have hs6 := hg6.size
          have hdrop : (cs.drop m).foldl (stepA sts k' i head) oo = (cs.drop (m + 1)).foldl (stepA sts k' i head) (stepA sts k' i head oo cb) := by
            obtain ⟨h1, h2⟩ := List.getElem?_eq_some_iff.1 HCB.out
            rw [List.drop_eq_getElem_cons h1, List.foldl_cons, h2]
          have HD := Lib.hid hdrop
          have HG6 := Lib.hid hg6
          have ho6 := ownsRow_kept HO2.out hg6 (own_none _)
          have HO6 := Lib.hid ho6
          clear hdrop hg6 ho6
          rcases hnx : nextS sts i cb with _ | j
          · have HNX := Lib.hid hnx
            clear hnx
            go_wp2_with fail
            go_roundw
            case rel =>
              refine ⟨m + 1, oo, by omega, by go_num, ⟨A2, n2, c2, rfl, HN2.out, HO6.out, grownBy_trans HG2.out HG6.out nofun, HB2.out⟩, ?_, by omega⟩
              rw [← HFO.out, HD.out]
              have : stepA sts k' i head oo cb = oo := by unfold stepA; rw [HNX.out]
              rw [this]
            case measure => simp [intOf]; omega
          · have hst2 : stepA sts k' i head oo cb = allS sts k' j (head ++ [cb]) oo := by unfold stepA; rw [hnx]
            have HST := Lib.hid hst2
            obtain ⟨hb, hhb⟩ : ∃ hb : Wd, head ++ [cb] = hb := ⟨_, rfl⟩
            have eh : (⟨head.toArray⟩ : ByteArray) ++ ⟨[cb].toArray⟩ = ⟨hb.toArray⟩ := by rw [← hhb]; exact bytes_append head [cb]
            have hnl : ¬ 9223372036854775807 < head.length + 1 := by omega
            have hbl : hb.length = head.length + 1 := by rw [← hhb]; simp
            have hal := World.grownBy_alloc w6 (.cells #[.int .u8 cb.toNat] 5) none
            have hcv := conv_bytes [cb] w6.heap.size 1 1 (w6.alloc (.cells #[.int .u8 cb.toNat] 5)) rfl (fun j u hu => by
              have := cell_of_heap (heap_alloc_new w6 (.cells #[.int .u8 cb.toNat] 5 (0, 0))) j
              rw [this]
              simpa [Lib.byteCells] using hu)
            have hrec := ih k' rfl Y B M base0 lv start sts w0 H.out j hb oo A2 n2 c2 base (w6.alloc (.cells #[.int .u8 cb.toNat] 5)) (grownBy_trans (grownBy_trans HGX.out HG6.out nofun) hal nofun) HN2.out (ownsRow_kept HO6.out hal (own_none _)) hb0 (by simp; omega) (by omega) (by omega) (by omega) (ks - 1) (by have := HKS.out; omega)
            have HREC := Lib.hid hrec
            have HHB := Lib.hid hhb
            have HAL := Lib.hid hal
            have HBL := Lib.hid hbl
            have HNX := Lib.hid hnx
            clear hrec hst2 hnx hhb hbl hal
            go_wp2_with fail
            refine HREC.out.mono ?_
            rintro e w8 ⟨v, rfl, A3, n3, c3, rfl, hn3, ho3, hg3, hb3⟩
            have HN3 := Lib.hid hn3
            have HO3 := Lib.hid ho3
            have HB3 := Lib.hid hb3
            have hg58 := grownBy_trans (grownBy_trans (grownBy_trans HG2.out HG6.out nofun) HAL.out nofun) hg3 HB2.out
            have HG58 := Lib.hid hg58
            clear hn3 ho3 hb3 hg3 hg58
            go_wp2_with fail
            go_roundw
            case rel =>
              refine ⟨m + 1, allS sts k' j hb oo, by omega, by go_num, ⟨A3, n3, c3, rfl, HN3.out, HO3.out, HG58.out, fun b hb => ?_⟩, ?_, ?_⟩
              · rcases HB3.out b hb with e | e
                · exact HB2.out b e
                · refine .inr ?_
                  simp at e; omega
              · rw [← HFO.out, HD.out, HST.out, HHB.out]
              · rcases Nat.lt_or_ge 100 oo.length with h3 | h3
                · have := allS_many sts k' j hb oo h3; omega
                · have := allS_few sts HSM.out k' j hb oo h3; omega
            case measure => simp [intOf]; omega
        · obtain rfl : m = cs.length := by omega
          go_wp2_with fail
          go_ret
          have e3 := HFO.out
          rw [List.drop_length, List.foldl_nil] at e3
          rw [HE2.out, ← e3]
          refine ⟨_, rfl, A2, n2, c2, rfl, HN2.out, HO2.out, grownBy_trans (grownBy_trans HG.out HG5.out nofun) HG2.out (fun b hb => HB.out b hb), fun b hb => ?_⟩
          rcases HB2.out b hb with e | e
          · exact HB.out b e
          · exact .inr (by omega)

theorem all_walk : ∀ k, AllDoes k
  | 0 => all_step 0 (fun _ h => by omega)
  | k + 1 => all_step (k + 1) (fun k' h => by
      have e : k' = k := by omega
      rw [e]
      exact all_walk k)
end Go.Proofs.Ytiiaphgencoijaa
