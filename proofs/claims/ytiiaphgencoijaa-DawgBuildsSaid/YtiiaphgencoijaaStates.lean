/-
  ref15's States: the walk. Conditions: few words, short ones.
-/
import Derived.Test.YtiiaphgencoijaaHeads
namespace Go.Proofs.Ytiiaphgencoijaa
open Go Go.RowKit Go.Maps

theorem mem_headsOf {L : List Wd} {x h : Wd} : ∀ k, h ∈ (List.range k).foldl (headStep x) L ↔ h ∈ L ∨ ∃ j, j < k ∧ h = x.take (j + 1) := by
  intro k
  induction k with
  | zero => simp
  | succ k ih =>
    rw [range_step]
    unfold headStep
    rw [mem_insU]
    have ih' : h ∈ (List.range k).foldl (fun L k => insU (x.take (k + 1)) L) L ↔ h ∈ L ∨ ∃ j, j < k ∧ h = x.take (j + 1) := ih
    show h = _ ∨ h ∈ (List.range k).foldl (fun L k => insU (x.take (k + 1)) L) L ↔ _
    rw [ih']
    constructor
    · rintro (e | e | ⟨j, hj, e⟩)
      · exact .inr ⟨k, by omega, e⟩
      · exact .inl e
      · exact .inr ⟨j, by omega, e⟩
    · rintro (e | ⟨j, hj, e⟩)
      · exact .inr (.inl e)
      · rcases Nat.lt_or_ge j k with h1 | h1
        · exact .inr (.inr ⟨j, h1, e⟩)
        · obtain rfl : j = k := by omega
          exact .inl e

theorem mem_headsS {m : List Wd} {h : Wd} : h ∈ headsS m ↔ h = [] ∨ ∃ x ∈ m, ∃ j, j < x.length ∧ h = x.take (j + 1) := by
  have key : ∀ (m : List Wd) (L : List Wd), h ∈ m.foldl headsOf L ↔ h ∈ L ∨ ∃ x ∈ m, ∃ j, j < x.length ∧ h = x.take (j + 1) := by
    intro m
    induction m with
    | nil => intro L; simp
    | cons x m ih =>
      intro L
      rw [List.foldl_cons, ih]
      unfold headsOf
      rw [mem_headsOf]
      constructor
      · rintro ((e | e) | ⟨y, hy, e⟩)
        · exact .inl e
        · exact .inr ⟨x, by simp, e⟩
        · exact .inr ⟨y, by simp [hy], e⟩
      · rintro (e | ⟨y, hy, e⟩)
        · exact .inl (.inl e)
        · rcases List.mem_cons.1 hy with rfl | hy
          · exact .inl (.inr e)
          · exact .inr ⟨y, hy, e⟩
  rw [headsS, key]; simp

/-- Unlike lots of endings. -/
def seenS (m : List Wd) (hs : List Wd) : List Wd := hs.foldl (fun L h => insU (endS m h) L) []

set_option maxRecDepth 100000 in
set_option maxHeartbeats 1000000 in
theorem refstates_walk (ss : List Wd) (A : Option Addr) (n c : Nat) (w : World) (hn : ss.length = n) (hb : n ≤ 100) (hx : ∀ x ∈ ss, x.length ≤ 100) (hs : Sl w 1 A n (strCells ss)) :
    Calls Try.prog 33 #[.slice A n c] w fun e w' => e = .returned (.int .i64 (seenS ss (headsS ss)).length) ∧ w.grownBy w' none := by
  have hhl : ∀ h ∈ headsS ss, h.length ≤ 1000 := by
    intro h hh
    rcases mem_headsS.1 hh with rfl | ⟨x, hxm, j, hj, rfl⟩
    · simp
    · have := hx x hxm; rw [List.length_take]; omega
  have H := Lib.hid hs
  have HN := Lib.hid hn
  have HX := Lib.hid hx
  have HH := Lib.hid hhl
  clear hs hn hx hhl
  go_enter Try.func33, Try.ntmps33
  go_wp2_with fail
  refine (heads_walk ss A n c w HN.out hb HX.out H.out).mono ?_
  rintro e w0 ⟨v, rfl, A0, n0, c0, rfl, hl0, _, hm0, hs0, hg0⟩
  generalize hhd : headsS ss = hds at *
  have HHD := Lib.hid hhd
  clear hhd
  have HL0 := Lib.hid hl0
  have HS0 := Lib.hid hs0
  have HG0 := Lib.hid hg0
  clear hl0 hs0 hg0
  go_wp2_with fail
  go_loopw [3, 5] (fun mv iv wr => ∃ i : Nat, i ≤ n0 ∧ iv = .int .i64 i ∧ HasW w0 mv (seenS ss (hds.take i)) i wr) (fun _ iv _ => n0 - (intOf iv).toNat)
  case atStart => exact ⟨0, Nat.zero_le _, rfl, none, 0, 0, rfl, rfl, Nat.le_refl _, Nat.le_refl _, Sl.nil _ _ _, grownBy_refl _ _⟩
  case round =>
    obtain ⟨i, hi, rfl, A1, n1, c1, rfl, hl1, hnc1, hm1, hs1, hg1⟩ := hrel
    have HL1 := Lib.hid hl1
    have HS1 := Lib.hid hs1
    have HG1 := Lib.hid hg1
    clear hl1 hs1 hg1
    rcases Nat.lt_or_ge i n0 with hlt | hge
    · obtain ⟨x, hxi⟩ : ∃ x, hds[i]? = some x := ⟨_, List.getElem?_eq_getElem (by rw [HL0.out]; exact hlt)⟩
      obtain ⟨q, o, rfl, hc⟩ := (HS0.out.kept HG1.out nofun).str hxi
      have hxl := HH.out x (List.mem_of_getElem? hxi)
      have hft : seenS ss (hds.take (i + 1)) = insU (endS ss x) (seenS ss (hds.take i)) := by
        unfold seenS; rw [List.take_add_one, hxi, List.foldl_append]; rfl
      have HF := Lib.hid hft
      have HSW := Lib.hid ((H.out.kept HG0.out nofun).kept HG1.out nofun)
      clear hxi hft
      go_wp2_with fail
      refine (endings_walk ss x A n c wr HN.out (by omega) (fun y hy => by have := HX.out y hy; omega) hxl HSW.out).mono ?_
      rintro e w1 ⟨rfl, rfl⟩
      go_wp2_with fail
      refine (put_walk _ (endS ss x) A1 n1 c1 w1 HL1.out hnc1 (by omega) HS1.out).mono ?_
      rintro e w2 ⟨A2, n2, c2, rfl, hl2, hnc2, hs2, hg2⟩
      have hle := insU_len (endS ss x) (seenS ss (hds.take i))
      have hn2 : n2 ≤ i + 1 := by have := HL1.out; omega
      have HL2 := Lib.hid hl2
      have HS2 := Lib.hid hs2
      have HG2 := Lib.hid hg2
      clear hl2 hs2 hg2 hle
      go_wp2_with fail
      go_roundw
      case rel => exact ⟨i + 1, by omega, by go_num, A2, n2, c2, rfl, by rw [HF.out]; exact HL2.out, hnc2, hn2, by rw [HF.out]; exact HS2.out, grownBy_trans HG1.out HG2.out nofun⟩
      case measure => simp [intOf]; omega
    · obtain rfl : i = n0 := by omega
      have e0 : hds.take i = hds := List.take_of_length_le (by rw [HL0.out]; exact Nat.le_refl _)
      have HE := Lib.hid e0
      clear e0
      go_wp2_with fail
      go_ret
      refine ⟨?_, grownBy_trans HG0.out HG1.out nofun⟩
      have := HL1.out
      rw [HE.out] at this
      rw [HHD.out, this]; rfl
end Go.Proofs.Ytiiaphgencoijaa
