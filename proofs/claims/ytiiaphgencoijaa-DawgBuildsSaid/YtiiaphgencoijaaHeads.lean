/-
  ref15's Heads, States: the walks. Conditions: few words, short ones.
-/
import Derived.Test.YtiiaphgencoijaaEndings
namespace Go.Proofs.Ytiiaphgencoijaa
open Go Go.RowKit Go.Maps

/-- A word's beginnings, from so many bytes on, put into a list. -/
def headStep (x : Wd) (L : List Wd) (k : Nat) : List Wd := insU (x.take (k + 1)) L
def headsOf (L : List Wd) (x : Wd) : List Wd := (List.range x.length).foldl (headStep x) L
/-- All beginnings, rising. -/
def headsS (m : List Wd) : List Wd := m.foldl headsOf [[]]

theorem range_step (x : Wd) (L : List Wd) (k : Nat) : (List.range (k + 1)).foldl (headStep x) L = headStep x ((List.range k).foldl (headStep x) L) k := by
  rw [List.range_succ, List.foldl_append]; rfl

/-- A list of words that a walk holds. -/
def HasW (w : World) (v : Value) (L : List Wd) (m : Nat) (wr : World) : Prop :=
  ∃ A n c, v = .slice A n c ∧ L.length = n ∧ n ≤ c ∧ n ≤ m ∧ Sl wr 1 A n (strCells L) ∧ w.grownBy wr none

set_option maxRecDepth 100000 in
set_option maxHeartbeats 1000000 in
theorem heads_walk (ss : List Wd) (A : Option Addr) (n c : Nat) (w : World) (hn : ss.length = n) (hb : n ≤ 100) (hx : ∀ x ∈ ss, x.length ≤ 100) (hs : Sl w 1 A n (strCells ss)) :
    Calls Try.prog 50 #[.slice A n c] w fun e w' => ∃ v, e = .returned v ∧ HasW w v (headsS ss) 10001 w' := by
  have H := Lib.hid hs
  have HN := Lib.hid hn
  have HX := Lib.hid hx
  clear hs hn hx
  have hlit := Lib.hid (Sl.of_own (World.ownsRow_lit (base := 0) (size := 1) (e := 9) w #[.string ⟨#[]⟩] 1 (Nat.zero_le _) (by decide) rfl) (by intro x hx; simp at hx; subst hx; rfl))
  go_enter Try.func50, Try.ntmps50
  go_wp2_with fail
  go_loopw [3, 4] (fun mv iv wr => ∃ i : Nat, i ≤ n ∧ iv = .int .i64 i ∧ HasW w mv ((ss.take i).foldl headsOf [[]]) (1 + i * 100) wr) (fun _ iv _ => n - (intOf iv).toNat)
  case atStart => exact ⟨0, Nat.zero_le _, rfl, _, 1, 1, rfl, rfl, Nat.le_refl _, by omega, hlit.out, World.grownBy_alloc _ _ _⟩
  case round =>
    obtain ⟨i, hi, rfl, A1, n1, c1, rfl, hl1, hnc1, hm1, hs1, hg1⟩ := hrel
    have HL1 := Lib.hid hl1
    have HS1 := Lib.hid hs1
    have HG1 := Lib.hid hg1
    clear hl1 hs1 hg1
    rcases Nat.lt_or_ge i n with hlt | hge
    · obtain ⟨x, hxi⟩ : ∃ x, ss[i]? = some x := ⟨_, List.getElem?_eq_getElem (by rw [HN.out]; exact hlt)⟩
      obtain ⟨q, o, rfl, hc0⟩ := H.out.str hxi
      have HC0 := Lib.hid hc0
      have hxl := HX.out x (List.mem_of_getElem? hxi)
      have hxs : (⟨x.toArray⟩ : ByteArray).size = x.length := by simp [ByteArray.size]
      have hft : (ss.take (i + 1)).foldl headsOf [[]] = headsOf ((ss.take i).foldl headsOf [[]]) x := by
        rw [List.take_add_one, hxi, List.foldl_append]; rfl
      have HF := Lib.hid hft
      clear hxi hft hc0
      generalize (ss.take i).foldl headsOf [[]] = L0 at *
      go_wp2_with fail
      go_loopw [3, 5] (fun mv kv wx => ∃ k : Nat, k ≤ x.length ∧ kv = .int .i64 ((k : Int) + 1) ∧ HasW w mv ((List.range k).foldl (headStep x) L0) (1 + i * 100 + k) wx) (fun _ kv _ => x.length + 1 - (intOf kv).toNat)
      case atStart => exact ⟨0, Nat.zero_le _, rfl, A1, n1, c1, rfl, HL1.out, hnc1, by omega, HS1.out, HG1.out⟩
      case round =>
        obtain ⟨k, hk, rfl, A2, n2, c2, rfl, hl2, hnc2, hm2, hs2, hg2⟩ := hrel
        have HL2 := Lib.hid hl2
        have HS2 := Lib.hid hs2
        have HG2 := Lib.hid hg2
        have hc := HG2.out.cell HC0.out nofun
        clear hl2 hs2 hg2
        rcases Nat.lt_or_ge k x.length with hkl | hkl
        · obtain ⟨xt, hxt⟩ : ∃ xt : Wd, x.take (k + 1) = xt := ⟨_, rfl⟩
          have e1 : (⟨x.toArray⟩ : ByteArray).extract 0 (k + 1) = ⟨xt.toArray⟩ := by rw [← hxt]; exact ext_take _ _
          have HXT := Lib.hid hxt
          have hi1 : ((k : Int) + 1) ≤ x.length := by omega
          have hi2 : ((k : Int) + 1).toNat = k + 1 := by omega
          clear hxt
          go_wp2_with fail
          refine (put_walk _ xt A2 n2 c2 wr HL2.out hnc2 (by omega) HS2.out).mono ?_
          rintro e w1 ⟨A3, n3, c3, rfl, hl3, hnc3, hs3, hg3⟩
          have hle := insU_len xt ((List.range k).foldl (headStep x) L0)
          have hst : (List.range (k + 1)).foldl (headStep x) L0 = insU xt ((List.range k).foldl (headStep x) L0) := by rw [range_step]; unfold headStep; rw [HXT.out]
          have hn3 : n3 ≤ 1 + i * 100 + (k + 1) := by have := HL2.out; omega
          have HST := Lib.hid hst
          have HL3 := Lib.hid hl3
          have HS3 := Lib.hid hs3
          have HG3 := Lib.hid hg3
          clear hst hl3 hs3 hg3 hle
          go_wp2_with fail
          go_roundw
          case rel => exact ⟨k + 1, by omega, by go_num, A3, n3, c3, rfl, by rw [HST.out]; exact HL3.out, hnc3, hn3, by rw [HST.out]; exact HS3.out, grownBy_trans HG2.out HG3.out nofun⟩
          case measure => simp [intOf]; omega
        · obtain rfl : k = x.length := by omega
          have hi1 : ¬ ((x.length : Int) + 1) ≤ x.length := by omega
          go_wp2_with fail
          go_roundw
          case rel => exact ⟨i + 1, by omega, by go_num, A2, n2, c2, rfl, by rw [HF.out]; exact HL2.out, hnc2, by omega, by rw [HF.out]; exact HS2.out, HG2.out⟩
          case measure => simp [intOf]; omega
    · obtain rfl : i = n := by omega
      have e0 : ss.take i = ss := List.take_of_length_le (by rw [HN.out]; exact Nat.le_refl _)
      have HE := Lib.hid e0
      clear e0
      go_wp2_with fail
      go_ret
      refine ⟨_, rfl, A1, n1, c1, rfl, ?_, hnc1, by omega, ?_, HG1.out⟩
      · have := HL1.out; rw [HE.out] at this; exact this
      · have := HS1.out; rw [HE.out] at this; exact this
end Go.Proofs.Ytiiaphgencoijaa
