/-
  ref10.part: the walk. Conditions: a text of at most 100000 bytes.
-/
import Derived.Test.YtlbbjcggjmaehaaDoorWords
namespace Go.Proofs.YtlbbjcggjmaehaaDoor
open Go Go.RowKit Go.Maps

def isLet (b : UInt8) : Bool := (decide (97 ≤ b.toNat) && decide (b.toNat ≤ 122)) || (decide (65 ≤ b.toNat) && decide (b.toNat ≤ 90))

/-- A letter's number; 0: it is none. -/
def flagF : Wd → Int
  | [b] => if isLet b then (b.toNat : Int) else 0
  | _ => 0

def partV (s : Wd) : Wd := if s = [48] then [] else s
def partB (s : Wd) : Bool := if s = [48] then true else !decide (s = []) && decide (s.length ≤ 20) && (codesB s).isSome

set_option maxRecDepth 100000 in
set_option maxHeartbeats 1000000 in
theorem valid01_walk (s : Wd) (w : World) (hl : s.length ≤ 1000000) : Calls Tryd.prog 50 #[.string ⟨s.toArray⟩] w fun e w' => e = .returned (.bool (codesB s).isSome) ∧ w.grownBy w' none := by
  obtain ⟨ok, hok⟩ : ∃ ok, (codesB s).isSome = ok := ⟨_, rfl⟩
  rw [hok]
  have HOK := Lib.hid hok
  clear hok
  go_enter Tryd.func50, Tryd.ntmps50
  go_wp2_with fail
  refine (codes_walk s w hl).mono ?_
  rintro e w1 ⟨hg1, hcr⟩
  have HG := Lib.hid hg1
  clear hg1
  rcases hcr with ⟨cs, A, c, hcs, rfl, _⟩ | ⟨hcs, rfl⟩
  · have h := HOK.out
    rw [hcs] at h
    obtain rfl : true = ok := h
    clear hcs
    go_wp2_with fail
    go_ret
    exact ⟨rfl, HG.out⟩
  · have h := HOK.out
    rw [hcs] at h
    obtain rfl : false = ok := h
    clear hcs
    go_wp2_with fail
    go_ret
    exact ⟨rfl, HG.out⟩

set_option maxRecDepth 100000 in
set_option maxHeartbeats 1000000 in
theorem flag_walk (s : Wd) (w : World) : Calls Tryd.prog 34 #[.string ⟨s.toArray⟩] w fun e w' => e = .returned (.int .i64 (flagF s)) ∧ w' = w := by
  have hsz := size_wd s
  by_cases hl : s.length = 1
  · obtain ⟨b, rfl⟩ := List.length_eq_one_iff.1 hl
    have hx := get_byte (s := [b]) (i := 0) (b := b) rfl
    simp only [flagF]
    have hbl := UInt8.toNat_lt b
    obtain ⟨v, hv⟩ : ∃ v, (if isLet b = true then (b.toNat : Int) else 0) = v := ⟨_, rfl⟩
    rw [hv]
    unfold isLet at hv
    have hwr : IntKind.i64.wrap (b.toNat : Int) = (b.toNat : Int) := by rw [IntKind.wrap_i64]; omega
    rcases (show b.toNat < 65 ∨ (65 ≤ b.toNat ∧ b.toNat ≤ 90) ∨ (90 < b.toNat ∧ b.toNat < 97) ∨ (97 ≤ b.toNat ∧ b.toNat ≤ 122) ∨ 122 < b.toNat by omega) with h | ⟨h, h'⟩ | ⟨h, h'⟩ | ⟨h, h'⟩ | h
    · have c1 : decide ((97 : Int) ≤ (b.toNat : Int)) = false := decide_eq_false (by omega)
      have c2 : decide ((65 : Int) ≤ (b.toNat : Int)) = false := decide_eq_false (by omega)
      have hv0 : v = 0 := by rw [← hv, decide_eq_false (show ¬ 97 ≤ b.toNat by omega), decide_eq_false (show ¬ 65 ≤ b.toNat by omega)]; simp
      subst hv0
      clear hv
      go_enter Tryd.func34, Tryd.ntmps34
      go_wp2_with fail
      go_ret
      exact ⟨rfl, rfl⟩
    · have c1 : decide ((97 : Int) ≤ (b.toNat : Int)) = false := decide_eq_false (by omega)
      have c2 : decide ((65 : Int) ≤ (b.toNat : Int)) = true := decide_eq_true (by omega)
      have c3 : decide ((b.toNat : Int) ≤ (90 : Int)) = true := decide_eq_true (by omega)
      have hv0 : v = (b.toNat : Int) := by rw [← hv, decide_eq_false (show ¬ 97 ≤ b.toNat by omega), decide_eq_true (show 65 ≤ b.toNat by omega), decide_eq_true h']; simp
      subst hv0
      clear hv
      go_enter Tryd.func34, Tryd.ntmps34
      go_wp2_with fail
      go_ret
      exact ⟨rfl, rfl⟩
    · have c1 : decide ((97 : Int) ≤ (b.toNat : Int)) = false := decide_eq_false (by omega)
      have c2 : decide ((65 : Int) ≤ (b.toNat : Int)) = true := decide_eq_true (by omega)
      have c3 : decide ((b.toNat : Int) ≤ (90 : Int)) = false := decide_eq_false (by omega)
      have hv0 : v = 0 := by rw [← hv, decide_eq_false (show ¬ 97 ≤ b.toNat by omega), decide_eq_false (show ¬ b.toNat ≤ 90 by omega)]; simp
      subst hv0
      clear hv
      go_enter Tryd.func34, Tryd.ntmps34
      go_wp2_with fail
      go_ret
      exact ⟨rfl, rfl⟩
    · have c1 : decide ((97 : Int) ≤ (b.toNat : Int)) = true := decide_eq_true (by omega)
      have c2 : decide ((b.toNat : Int) ≤ (122 : Int)) = true := decide_eq_true (by omega)
      have hv0 : v = (b.toNat : Int) := by rw [← hv, decide_eq_true h, decide_eq_true h']; simp
      subst hv0
      clear hv
      go_enter Tryd.func34, Tryd.ntmps34
      go_wp2_with fail
      go_ret
      exact ⟨rfl, rfl⟩
    · have c1 : decide ((97 : Int) ≤ (b.toNat : Int)) = true := decide_eq_true (by omega)
      have c2 : decide ((b.toNat : Int) ≤ (122 : Int)) = false := decide_eq_false (by omega)
      have c3 : decide ((65 : Int) ≤ (b.toNat : Int)) = true := decide_eq_true (by omega)
      have c4 : decide ((b.toNat : Int) ≤ (90 : Int)) = false := decide_eq_false (by omega)
      have hv0 : v = 0 := by rw [← hv, decide_eq_false (show ¬ b.toNat ≤ 122 by omega), decide_eq_false (show ¬ b.toNat ≤ 90 by omega)]; simp
      subst hv0
      clear hv
      go_enter Tryd.func34, Tryd.ntmps34
      go_wp2_with fail
      go_ret
      exact ⟨rfl, rfl⟩
  · have hf : flagF s = 0 := by
      unfold flagF
      split
      · exact absurd rfl hl
      · rfl
    rw [hf]
    have hl1 : ((s.length : Int) == 1) = false := by rw [beq_eq_false_iff_ne]; omega
    have hl2 : decide ((s.length : Int) = 1) = false := decide_eq_false (by omega)
    have hl3 : ¬ (s.length : Int) = 1 := by omega
    go_enter Tryd.func34, Tryd.ntmps34
    go_wp2_with fail
    go_ret
    exact ⟨rfl, rfl⟩
end Go.Proofs.YtlbbjcggjmaehaaDoor

namespace Go.Proofs.YtlbbjcggjmaehaaDoor
open Go Go.RowKit Go.Maps

theorem wd_list (x : Wd) : (⟨x.toArray⟩ : ByteArray).toList = x := by rw [ByteArray.toList_eq]

set_option maxRecDepth 100000 in
set_option maxHeartbeats 1000000 in
theorem part_walk (s : Wd) (w : World) (hl : s.length ≤ 100000) : Calls Tryd.prog 35 #[.string ⟨s.toArray⟩] w fun e w' => e = .returned (.tuple #[.string ⟨(partV s).toArray⟩, .bool (partB s)]) ∧ w.grownBy w' none := by
  by_cases h0 : s = [48]
  · subst h0
    have e1 : partV [48] = [] := rfl
    have e2 : partB [48] = true := rfl
    rw [e1, e2]
    go_enter Tryd.func35, Tryd.ntmps35
    go_wp2_with fail
    go_ret2
    exact ⟨rfl, grownBy_refl _ none⟩
  · have e1 : partV s = s := by unfold partV; rw [if_neg h0]
    have e2 : partB s = (!decide (s = []) && decide (s.length ≤ 20) && (codesB s).isSome) := by unfold partB; rw [if_neg h0]
    rw [e1, e2]
    have hv := valid01_walk s w (by omega)
    obtain ⟨ok, hok⟩ : ∃ ok, (codesB s).isSome = ok := ⟨_, rfl⟩
    rw [hok] at hv ⊢
    have hne := wd_ne2 h0
    have hne2 : ¬ s.toArray = #[48] := fun e => h0 (by simpa using congrArg Array.toList e)
    have hbe : (s == [48]) = false := by rw [beq_eq_false_iff_ne]; exact h0
    have hsz := size_wd s
    obtain ⟨L, hL⟩ : ∃ L, s.length = L := ⟨_, rfl⟩
    rw [hL] at hsz ⊢
    have HV := Lib.hid hv
    by_cases hn : s = []
    · subst hn
      clear hv
      go_enter Tryd.func35, Tryd.ntmps35
      go_wp2_with fail
      go_ret2
      exact ⟨by simp, grownBy_refl _ none⟩
    · have hfull := wd_full hn
      have hnn := wd_ne hn
      rw [decide_eq_false hn]
      obtain ⟨S, hS⟩ : ∃ S : ByteArray, (⟨s.toArray⟩ : ByteArray) = S := ⟨_, rfl⟩
      rw [hS] at hfull hnn HV hsz hne ⊢
      have hbe2 : (S.toList == [48]) = false := by rw [← hS, wd_list]; exact hbe
      clear hv hok hS hn h0 e1 e2 hne2 hbe
      rcases Nat.lt_or_ge 20 L with hb | hb
      · have hbi : decide ((L : Int) ≤ (20 : Int)) = false := decide_eq_false (by omega)
        rw [decide_eq_false (show ¬ L ≤ 20 by omega)]
        go_enter Tryd.func35, Tryd.ntmps35
        go_wp2_with fail
        go_ret2
        exact ⟨by simp, grownBy_refl _ none⟩
      · have hbi : decide ((L : Int) ≤ (20 : Int)) = true := decide_eq_true (by omega)
        rw [decide_eq_true hb]
        go_enter Tryd.func35, Tryd.ntmps35
        go_wp2_with fail
        refine HV.out.mono ?_
        rintro e w1 ⟨rfl, hg⟩
        have HG := Lib.hid hg
        clear hg
        go_wp2_with fail
        go_ret2
        exact ⟨by simp, HG.out⟩
end Go.Proofs.YtlbbjcggjmaehaaDoor
