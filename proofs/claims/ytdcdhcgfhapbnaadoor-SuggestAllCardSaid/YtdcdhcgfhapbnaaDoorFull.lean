/-
  utf8.FullRuneInString: the walk. Conditions: unicode/utf8's two tables as they are laid.
-/
import Derived.Test.YtdcdhcgfhapbnaaDoorUtf
namespace Go.Proofs.YtdcdhcgfhapbnaaDoor
open Go Go.RowKit

set_option maxRecDepth 100000 in
set_option maxHeartbeats 2000000 in
theorem full_walk (s : Wd) (hs : s ≠ []) (hl : s.length < 4611686018427387904) (w : World) (hT : Lib.Utf8Tabs 0 1 w) :
    Calls Tryd.prog 72 #[.string ⟨s.toArray⟩] w fun e w' => e = .returned (.bool (fullB s)) ∧ w.grownBy w' none := by
  have hsz := size_wd s
  have hpos : 0 < s.length := by rcases Nat.eq_zero_or_pos s.length with h | h; exact absurd (List.eq_nil_of_length_eq_zero h) hs; exact h
  obtain ⟨L, hL⟩ : ∃ L, s.length = L := ⟨_, rfl⟩
  rw [hL] at hsz hpos hl
  have hLz : L ≠ 0 := by omega
  obtain ⟨b0, hb0⟩ : ∃ b0, s.getD 0 0 = b0 := ⟨_, rfl⟩
  obtain ⟨b1, hb1⟩ : ∃ b1, s.getD 1 0 = b1 := ⟨_, rfl⟩
  obtain ⟨b2, hb2⟩ : ∃ b2, s.getD 2 0 = b2 := ⟨_, rfl⟩
  have hget : ∀ (i : Nat) (h : i < (⟨s.toArray⟩ : ByteArray).size), (⟨s.toArray⟩ : ByteArray)[i] = s.getD i 0 := by
    intro i h
    have h2 : i < s.length := by rwa [size_wd] at h
    rw [List.getD_eq_getElem?_getD, List.getElem?_eq_getElem h2]; rfl
  have hx0 : ∀ h : 0 < (⟨s.toArray⟩ : ByteArray).size, (⟨s.toArray⟩ : ByteArray)[0] = b0 := fun h => by rw [hget 0 h, hb0]
  have hx1 : ∀ h : 1 < (⟨s.toArray⟩ : ByteArray).size, (⟨s.toArray⟩ : ByteArray)[1] = b1 := fun h => by rw [hget 1 h, hb1]
  have hx2 : ∀ h : 2 < (⟨s.toArray⟩ : ByteArray).size, (⟨s.toArray⟩ : ByteArray)[2] = b2 := fun h => by rw [hget 2 h, hb2]
  have hbl := UInt8.toNat_lt b0
  have hc0 := hT.1 b0.toNat hbl
  have hacc := hT.2 (Lib.firstT b0.toNat / 16) (by rcases Lib.firstT_cases b0.toNat with h | h | h | h | h | h | h | h | h <;> rw [h] <;> decide)
  have hbi : (b0.toNat : Int) < 256 := by omega
  have hfull : fullB s = (if Lib.firstT b0.toNat % 8 ≤ L then true else if L = 1 then false else if b1.toNat < Lib.accLo (Lib.firstT b0.toNat / 16) ∨ Lib.accHi (Lib.firstT b0.toNat / 16) < b1.toNat then true else if L = 2 then false else (decide (b2.toNat < 128) || decide (191 < b2.toNat))) := by
    subst hL hb0 hb1 hb2
    match s, hs with
    | [a], _ => simp [fullB]
    | [a, b], _ => simp [fullB]
    | a :: b :: c :: t, _ => simp [fullB]
  generalize hX : Lib.firstT b0.toNat = X at hc0 hacc hfull
  have HFULL := Lib.hid hfull
  have HX := Lib.hid hX
  clear hfull hX hget hb0 hb1 hb2 hL hs hT
  obtain ⟨ha0, ha1⟩ := hacc
  have hX256 : X < 256 := by
    have := HX.out
    rcases Lib.firstT_cases b0.toNat with h | h | h | h | h | h | h | h | h <;> omega
  have hXi : (X : Int) < 256 := by omega
  have hX16 : X / 16 < 16 := by omega
  have hXj : (X : Int) / 16 < 16 := by omega
  have hbits : bits BinOp.and IntKind.u8 (X : Int) 7 = (X : Int) % 8 := by
    have hXc := Lib.firstT_cases b0.toNat
    rw [HX.out] at hXc
    rcases hXc with rfl | rfl | rfl | rfl | rfl | rfl | rfl | rfl | rfl <;> decide
  have hwx : wrap64 ((X : Int) % 8) = (X : Int) % 8 := IntWalk.wrap64_in _ (by omega)
  rw [Nat.mul_comm] at ha0 ha1
  generalize Lib.accLo (X / 16) = lo at ha0 HFULL
  generalize Lib.accHi (X / 16) = hi at ha1 HFULL
  have hgw := World.grownBy_alloc w (.cells #[.int .u8 (lo : Int), .int .u8 (hi : Int)] 122) none
  have HGW := Lib.hid hgw
  have hful := HFULL.out
  clear hgw
  rcases Nat.lt_or_ge L (X % 8) with hm | hm
  · rw [if_neg (by omega)] at hful
    have hmi : (L : Int) < (X : Int) % 8 := by omega
    rcases (show L = 1 ∨ 2 ≤ L by omega) with h1 | h1
    · subst h1
      rw [if_pos rfl] at hful
      have HFU := Lib.hid hful
      clear hful
      go_enter Tryd.func72, Tryd.ntmps72
      go_wp2_with fail
      go_quiet (fail)
      go_wp2_with fail
      go_ret
      exact ⟨by rw [HFU.out]; rfl, grownBy_drewN HGW.out _⟩
    · rw [if_neg (by omega)] at hful
      have h1i : (1 : Int) < (L : Int) := by omega
      have hb1l := UInt8.toNat_lt b1
      have hb2l := UInt8.toNat_lt b2
      rcases Nat.lt_or_ge b1.toNat lo with h2 | h2
      · rw [if_pos (.inl h2)] at hful
        have h2i : (b1.toNat : Int) < (lo : Int) := by omega
        have HFU := Lib.hid hful
        clear hful
        go_enter Tryd.func72, Tryd.ntmps72
        go_wp2_with fail
        go_quiet (fail)
        go_wp2_with fail
        go_ret
        exact ⟨by rw [HFU.out]; rfl, grownBy_drewN HGW.out _⟩
      · have h2i : decide ((b1.toNat : Int) < (lo : Int)) = false := decide_eq_false (by omega)
        have h2j : decide (b1.toNat < lo) = false := decide_eq_false (by omega)
        rcases Nat.lt_or_ge hi b1.toNat with h3 | h3
        · rw [if_pos (.inr h3)] at hful
          have h3i : (hi : Int) < (b1.toNat : Int) := by omega
          have HFU := Lib.hid hful
          clear hful
          go_enter Tryd.func72, Tryd.ntmps72
          go_wp2_with fail
          go_quiet (fail)
          go_wp2_with fail
          go_ret
          exact ⟨by rw [HFU.out]; rfl, grownBy_drewN HGW.out _⟩
        · have h3i : decide ((hi : Int) < (b1.toNat : Int)) = false := decide_eq_false (by omega)
          have h3j : decide (hi < b1.toNat) = false := decide_eq_false (by omega)
          rw [if_neg (by omega)] at hful
          rcases (show L = 2 ∨ 3 ≤ L by omega) with h4 | h4
          · subst h4
            rw [if_pos rfl] at hful
            have HFU := Lib.hid hful
            clear hful
            go_enter Tryd.func72, Tryd.ntmps72
            go_wp2_with fail
            go_quiet (fail)
            go_wp2_with fail
            go_ret
            exact ⟨by rw [HFU.out]; rfl, grownBy_drewN HGW.out _⟩
          · rw [if_neg (by omega)] at hful
            have h4i : (2 : Int) < (L : Int) := by omega
            rcases Nat.lt_or_ge b2.toNat 128 with h5 | h5
            · have h5i : (b2.toNat : Int) < 128 := by omega
              rw [decide_eq_true h5, Bool.true_or] at hful
              have HFU := Lib.hid hful
              clear hful
              go_enter Tryd.func72, Tryd.ntmps72
              go_wp2_with fail
              go_quiet (fail)
              go_wp2_with fail
              go_ret
              exact ⟨by rw [HFU.out]; rfl, grownBy_drewN HGW.out _⟩
            · have h5i : (128 : Int) ≤ (b2.toNat : Int) := by omega
              rw [decide_eq_false (by omega), Bool.false_or] at hful
              rcases Nat.lt_or_ge 191 b2.toNat with h6 | h6
              · have h6i : (191 : Int) < (b2.toNat : Int) := by omega
                rw [decide_eq_true h6] at hful
                have HFU := Lib.hid hful
                clear hful
                go_enter Tryd.func72, Tryd.ntmps72
                go_wp2_with fail
                go_quiet (fail)
                go_wp2_with fail
                go_ret
                exact ⟨by rw [HFU.out]; rfl, grownBy_drewN HGW.out _⟩
              · have h6i : (b2.toNat : Int) ≤ 191 := by omega
                rw [decide_eq_false (by omega)] at hful
                have HFU := Lib.hid hful
                clear hful
                go_enter Tryd.func72, Tryd.ntmps72
                go_wp2_with fail
                go_quiet (fail)
                go_wp2_with fail
                go_ret
                exact ⟨by rw [HFU.out]; rfl, grownBy_drewN HGW.out _⟩
  · rw [if_pos hm] at hful
    have hmi : (X : Int) % 8 ≤ (L : Int) := by omega
    have HFU := Lib.hid hful
    clear hful
    go_enter Tryd.func72, Tryd.ntmps72
    go_wp2_with fail
    go_ret
    exact ⟨by rw [HFU.out]; rfl, grownBy_refl _ _⟩
end Go.Proofs.YtdcdhcgfhapbnaaDoor
