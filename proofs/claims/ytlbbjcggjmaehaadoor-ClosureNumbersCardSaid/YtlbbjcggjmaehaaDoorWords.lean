/-
  ref10.Words, Flag, part: the walks. Conditions: a text of at most 100000 bytes.
-/
import Derived.Test.YtlbbjcggjmaehaaDoorRef10
namespace Go.Proofs.YtlbbjcggjmaehaaDoor
open Go Go.RowKit Go.Maps

/-- A text cut at each blank. -/
def wordsF : Wd → Wd → List Wd
  | [], cur => [cur]
  | b :: t, cur => if b = 32 then cur :: wordsF t [] else wordsF t (cur ++ [b])

theorem wordsF_sp {b : UInt8} (h : b = 32) (t cur : Wd) : wordsF (b :: t) cur = cur :: wordsF t [] := by rw [wordsF, if_pos h]
theorem wordsF_no {b : UInt8} (h : ¬ b = 32) (t cur : Wd) : wordsF (b :: t) cur = wordsF t (cur ++ [b]) := by rw [wordsF, if_neg h]

theorem wordsF_len : ∀ (t cur : Wd), (wordsF t cur).length ≤ t.length + 1
  | [], cur => by simp [wordsF]
  | b :: t, cur => by
    unfold wordsF
    split
    · have := wordsF_len t []; simp only [List.length_cons]; omega
    · have := wordsF_len t (cur ++ [b]); simp only [List.length_cons]; omega

theorem get_byte {s : Wd} {i : Nat} {b : UInt8} (h : s[i]? = some b) : ∀ hh : i < (⟨s.toArray⟩ : ByteArray).size, (⟨s.toArray⟩ : ByteArray)[i] = b := by
  intro hh
  have hl := (List.getElem?_eq_some_iff.1 h).1
  rw [List.getElem?_eq_getElem hl] at h
  exact Option.some.inj h

theorem drop_cons {s : Wd} {i : Nat} {b : UInt8} (h : s[i]? = some b) : s.drop i = b :: s.drop (i + 1) := by
  have hl := (List.getElem?_eq_some_iff.1 h).1
  rw [List.drop_eq_getElem_cons hl]
  rw [List.getElem?_eq_getElem hl] at h
  rw [Option.some.inj h]

theorem take_snoc {s : Wd} {i f : Nat} {b : UInt8} (h : s[i]? = some b) (hf : f ≤ i) : (s.take (i + 1)).drop f = (s.take i).drop f ++ [b] := by
  have hl := (List.getElem?_eq_some_iff.1 h).1
  rw [List.take_add_one, h, List.drop_append_of_le_length (by rw [List.length_take]; omega)]; rfl

def WordsRel (s : Wd) (w : World) (L : Nat) (lv fv iv : Value) (wr : World) : Prop :=
  ∃ (i f c : Nat) (A : Option Addr) (W : List Wd), i ≤ L + 1 ∧ f ≤ i ∧ iv = .int .i64 (i : Int) ∧ fv = .int .i64 (f : Int) ∧ lv = .slice A W.length c ∧ wr.ownsRow w.heap.size 9 1 (.slice A W.length c) W.length (strCells W) ∧
    (i ≤ L → W ++ wordsF (s.drop i) ((s.take i).drop f) = wordsF s []) ∧ (i = L + 1 → W = wordsF s []) ∧ W.length ≤ i ∧ w.grownBy wr none

set_option maxRecDepth 100000 in
set_option maxHeartbeats 2000000 in
theorem words_walk (s : Wd) (w : World) (hl : s.length ≤ 100000) : Calls Tryd.prog 33 #[.string ⟨s.toArray⟩] w fun e w' => ∃ A c, e = .returned (.slice A (wordsF s []).length c) ∧ w'.ownsRow w.heap.size 9 1 (.slice A (wordsF s []).length c) (wordsF s []).length (strCells (wordsF s [])) ∧ w.grownBy w' none := by
  obtain ⟨i0, hi, hz0, hz1, hz2⟩ := info_parts str_info
  have hsz := size_wd s
  obtain ⟨L, hL⟩ : ∃ L, s.length = L := ⟨_, rfl⟩
  rw [hL] at hsz hl
  have HL := Lib.hid hL
  clear hL
  go_enter Tryd.func33, Tryd.ntmps33
  go_wp2_with fail
  go_loopw [3, 4, 5] (fun lv fv iv wr => WordsRel s w L lv fv iv wr) (fun _ _ iv _ => L + 1 - (RowKit.intOf iv).toNat)
  case atStart => exact ⟨0, 0, 0, none, [], by omega, by omega, rfl, rfl, rfl, World.ownsRow_nil _ _ _ _, fun _ => by simp, by omega, by simp, grownBy_refl _ _⟩
  case round =>
    obtain ⟨i, f, c, A, W, hi1, hfi, rfl, rfl, rfl, hown, hst, hen, hWl, hg⟩ := hrel
    obtain ⟨n, hn⟩ : ∃ n, W.length = n := ⟨_, rfl⟩
    rw [hn] at hown hWl ⊢
    have HO := Lib.hid hown
    have HG := Lib.hid hg
    have HST := Lib.hid hst
    have HEN := Lib.hid hen
    have HNW := Lib.hid hn
    clear hown hg hst hen hn
    rcases Nat.lt_or_ge L i with hgt | hle
    · have hgi : ¬ (i : Int) ≤ (L : Int) := by omega
      have hW := HEN.out (by omega)
      have HW := Lib.hid hW
      clear hW
      go_wp2_with fail
      go_ret
      refine ⟨A, c, by rw [← HW.out, HNW.out]; rfl, ?_, HG.out⟩
      rw [← HW.out, HNW.out]; exact HO.out
    · have hlei : (i : Int) ≤ (L : Int) := by omega
      have hcur : ∀ hf : f ≤ i, (⟨s.toArray⟩ : ByteArray).extract f i = ⟨((s.take i).drop f).toArray⟩ := fun _ => slice_wd s f i
      have hex := hcur hfi
      obtain ⟨cur, hcu⟩ : ∃ cur, (s.take i).drop f = cur := ⟨_, rfl⟩
      rw [hcu] at hex
      have hfii : (f : Int) ≤ (i : Int) := by omega
      have HCU := Lib.hid hcu
      have hst := HST.out hle
      rw [hcu] at hst
      have HST2 := Lib.hid hst
      have happ : ∀ b : Bool, True := fun _ => trivial
      have hga := World.grownBy_alloc wr (.cells #[.string ⟨cur.toArray⟩] 9) none
      have hown2 := ownsRow_kept HO.out hga (own_none _)
      have hsl := Sl.of_own (World.ownsRow_lit (base := 0) (size := 1) (e := 9) wr #[.string ⟨cur.toArray⟩] 1 (Nat.zero_le _) (by decide) rfl) (by intro x hx; simp at hx; subst hx; rfl)
      have hwr := HG.out.size
      have HGA := Lib.hid hga
      have HO2 := Lib.hid hown2
      have HSL := Lib.hid hsl
      clear hcur hcu hst happ hga hown2 hsl
      have hsn : strCells (W ++ [cur]) = strCells W ++ [.string ⟨cur.toArray⟩] := by simp [strCells]
      have HSN := Lib.hid hsn
      clear hsn
      rcases Nat.lt_or_ge i L with hlt | hge
      · have hne : ((i : Int) == (L : Int)) = false := by rw [beq_eq_false_iff_ne]; omega
        have hned : decide ((i : Int) = (L : Int)) = false := decide_eq_false (by omega)
        have hlti : (i : Int) < (L : Int) := by omega
        obtain ⟨b, hb⟩ : ∃ b, s[i]? = some b := ⟨_, List.getElem?_eq_getElem (by rw [HL.out]; exact hlt)⟩
        have hx := get_byte hb
        have hd := drop_cons hb
        have ht := fun hf => take_snoc (f := f) hb hf
        have ht2 := take_snoc (f := i + 1) hb
        have HB := Lib.hid hb
        have HD := Lib.hid hd
        have HTS := Lib.hid (ht hfi)
        have hbl := UInt8.toNat_lt b
        clear hb hd ht ht2
        by_cases hsp : b = 32
        · have hsp1 : (b.toNat : Int) = 32 := by rw [hsp]; rfl
          have hstep : W ++ [cur] ++ wordsF (s.drop (i + 1)) ((s.take (i + 1)).drop (i + 1)) = wordsF s [] := by
            have h := HST2.out
            rw [HD.out, wordsF_sp hsp] at h
            have e9 : (s.take (i + 1)).drop (i + 1) = [] := List.drop_of_length_le (by rw [List.length_take]; omega)
            rw [e9, List.append_assoc]
            exact h
          have HSTEP := Lib.hid hstep
          clear hstep hsp
          go_wp2_with (at_builtin; refine wpList_append_sl _ rfl (.tmp 22) (.tmp 27) 29 rfl w.heap.size 9 i0 _ 1 16 Tryd.underlying29 hi hz0 hz1 hz2 rfl (by decide) (.slice A n c) n _ rfl HO2.out (some ⟨wr.heap.size, 0, none⟩) 1 1 [.string ⟨cur.toArray⟩] rfl HSL.out (by unfold maxLen; omega) (by omega) (by simp; omega) ?_)
          rintro v' w' ⟨hown', hg', hat⟩
          obtain ⟨q', c', rfl, _⟩ := own_form hown' (by omega)
          have hgw : w.grownBy w' none := grownBy_trans (grownBy_trans HG.out HGA.out nofun) hg' (fun l hl => .inr (HO2.out.lt l hl).1)
          go_wp2_with fail
          go_roundw
          case rel =>
            have e : (W ++ [cur]).length = n + 1 := by rw [List.length_append, HNW.out]; rfl
            refine ⟨i + 1, i + 1, c', some ⟨q', 0, none⟩, W ++ [cur], by omega, by omega, by go_num, by go_num, by rw [e], by rw [e, HSN.out]; exact hown', fun _ => HSTEP.out, by omega, by rw [e]; omega, hgw⟩
          case measure => simp [RowKit.intOf]; omega
        · have hsp1 : ¬ (b.toNat : Int) = 32 := fun e => hsp (UInt8.toNat_inj.1 (by show b.toNat = 32; omega))
          have hsp2 : ((b.toNat : Int) == 32) = false := by rw [beq_eq_false_iff_ne]; exact hsp1
          have hstep : W ++ wordsF (s.drop (i + 1)) ((s.take (i + 1)).drop f) = wordsF s [] := by
            have h := HST2.out
            rw [HD.out, wordsF_no hsp] at h
            rw [HTS.out, HCU.out]
            exact h
          have HSTEP := Lib.hid hstep
          clear hstep hsp
          go_wp2_with fail
          go_roundw
          case rel => exact ⟨i + 1, f, c, A, W, by omega, by omega, by go_num, rfl, by rw [HNW.out], by rw [HNW.out]; exact HO.out, fun _ => HSTEP.out, by omega, by rw [HNW.out]; omega, HG.out⟩
          case measure => simp [RowKit.intOf]; omega
      · obtain rfl : i = L := by omega
        have hend : W ++ [cur] = wordsF s [] := by
          have h := HST2.out
          rw [← HL.out, List.drop_length] at h
          exact h
        have HEND := Lib.hid hend
        clear hend
        go_wp2_with (at_builtin; refine wpList_append_sl _ rfl (.tmp 22) (.tmp 27) 29 rfl w.heap.size 9 i0 _ 1 16 Tryd.underlying29 hi hz0 hz1 hz2 rfl (by decide) (.slice A n c) n _ rfl HO2.out (some ⟨wr.heap.size, 0, none⟩) 1 1 [.string ⟨cur.toArray⟩] rfl HSL.out (by unfold maxLen; omega) (by omega) (by simp; omega) ?_)
        rintro v' w' ⟨hown', hg', hat⟩
        obtain ⟨q', c', rfl, _⟩ := own_form hown' (by omega)
        have hgw : w.grownBy w' none := grownBy_trans (grownBy_trans HG.out HGA.out nofun) hg' (fun l hl => .inr (HO2.out.lt l hl).1)
        go_wp2_with fail
        go_roundw
        case rel =>
          have e : (W ++ [cur]).length = n + 1 := by rw [List.length_append, HNW.out]; rfl
          refine ⟨i + 1, i + 1, c', some ⟨q', 0, none⟩, W ++ [cur], by omega, by omega, by go_num, by go_num, by rw [e], by rw [e, HSN.out]; exact hown', by omega, fun _ => HEND.out, by rw [e]; omega, hgw⟩
        case measure => first | (simp [RowKit.intOf]; done) | (simp [RowKit.intOf]; omega)
end Go.Proofs.YtlbbjcggjmaehaaDoor
