/-
  ref18.Most: how many bytes may be followed: the walk: at least as many as beginnings have hope. Conditions: at most 100 words of at most 100 bytes, at most 900 codes.
-/
import Derived.Test.YtgcaenckjelijaaDoorHope
import Derived.Test.YtgcaenckjelijaaDoorHeads
import Derived.StillTailTactics
namespace Go.Proofs.YtgcaenckjelijaaDoor
open Go Go.RowKit Go.Lib Go.Maps

/-- The beginnings whose beginning one byte shorter has hope. -/
def mostC (codes : List Int) (mo : Nat) (H : List Wd) : Nat := ((H.drop 1).filter fun h => hopeS codes mo h.dropLast).length

theorem drop_one_take {H : List Wd} {j : Nat} {h : Wd} (hj : 1 ≤ j) (hh : H[j]? = some h) : (H.drop 1).take j = (H.drop 1).take (j - 1) ++ [h] := by
  obtain ⟨k, rfl⟩ : ∃ k, j = k + 1 := ⟨j - 1, by omega⟩
  rw [List.take_add_one, List.getElem?_drop, show 1 + k = k + 1 by omega, hh]; rfl

set_option maxRecDepth 100000 in
set_option maxHeartbeats 4000000 in
theorem most_walk (ss : List Wd) (A C : Option Addr) (n nc ca cc : Nat) (codes : List Int) (most : Int) (w : World) (hn : ss.length = n) (hn2 : n ≤ 100) (hx : ∀ x ∈ ss, x.length ≤ 100) (hA : Sl w 1 A n (strCells ss)) (hc : codes.length = nc) (hc2 : nc ≤ 900) (hcc : nc ≤ cc) (hC : Sl w 1 C nc (intCells codes)) :
    Calls Tryd.prog 27 #[.slice A n ca, .slice C nc cc, .int .i64 most] w fun e w' => ∃ x : Nat, e = .returned (.int .i64 (x : Int)) ∧ mostC codes (mostS most) (headsS ss) ≤ x ∧ w.grownBy w' none := by
  have hmax : ∀ (ts : Array TypeId) (t : TypeId) (w : World), (Builtin.max_ ts t #[.int .i64 most, .int .i64 0]).run Tryd.prog w = .ok (.int .i64 (max most 0)) w := by
    intro ts t w
    rw [run_max_int2]; congr 2; split <;> omega
  have hmin : ∀ (ts : Array TypeId) (t : TypeId) (w : World), (Builtin.min_ ts t #[.int .i64 (max most 0), .int .i64 3]).run Tryd.prog w = .ok (.int .i64 (mostS most : Int)) w := by
    intro ts t w
    rw [run_min_int2]; congr 2; unfold mostS; split <;> omega
  have hm3 : mostS most ≤ 3 := by unfold mostS; omega
  generalize mostS most = mo at *
  have hhl : ∀ h ∈ headsS ss, h.length ≤ 100 := by
    intro h hh
    rcases mem_headsS.1 hh with rfl | ⟨x, hxm, j, hj, rfl⟩
    · simp
    · have := hx x hxm; rw [List.length_take]; omega
  have hrise := headsS_rise ss
  have hnil : ([] : Wd) ∈ headsS ss := mem_headsS.2 (.inl rfl)
  have HC := Lib.hid hC
  have HCL := Lib.hid hc
  have HN := Lib.hid hn
  have HA := Lib.hid hA
  have HX := Lib.hid hx
  clear hC hc hn hA hx
  go_enter Tryd.func27, Tryd.ntmps27
  go_wp2_with fail
  clear hmax hmin
  refine (heads_walk ss A n ca w HN.out hn2 HX.out HA.out).mono ?_
  rintro e w1 ⟨v, rfl, A1, n1, c1, rfl, hl1, _, hm1, hs1, hg1⟩
  obtain ⟨H, hHe⟩ : ∃ H, headsS ss = H := ⟨_, rfl⟩
  rw [hHe] at hl1 hs1 hrise hnil
  rw [hHe] at hhl
  have HE := Lib.hid hHe
  clear hHe
  have HG1 := Lib.hid hg1
  have HS1 := Lib.hid hs1
  have HL1 := Lib.hid hl1
  have HHL := Lib.hid hhl
  have HRISE := Lib.hid hrise
  have HNIL := Lib.hid hnil
  clear hg1 hs1 hl1 hhl hrise hnil
  go_wp2_with fail
  go_loopw [8, 9] (fun xv iv wr => ∃ (i x : Nat), 1 ≤ i ∧ (i ≤ n1 ∨ i = 1) ∧ iv = .int .i64 (i : Int) ∧ xv = .int .i64 (x : Int) ∧ x ≤ i ∧ (((H.drop 1).take (i - 1)).filter fun h => hopeS codes mo h.dropLast).length ≤ x ∧ w1.grownBy wr none) (fun _ iv _ => n1 - (intOf iv).toNat)
  case atStart => exact ⟨1, 0, Nat.le_refl _, .inr rfl, rfl, rfl, by omega, by simp, grownBy_refl _ _⟩
  case round =>
    obtain ⟨i, x, hi1, hi2, rfl, rfl, hxi, hcnt, hg⟩ := hrel
    rcases Nat.lt_or_ge i n1 with hlt | hge
    · obtain ⟨h, hh⟩ : ∃ h, H[i]? = some h := ⟨_, List.getElem?_eq_getElem (by rw [HL1.out]; exact hlt)⟩
      obtain ⟨q, o, eA, hct⟩ := (HS1.out.kept hg nofun).str hh
      cases eA
      have hlti : (i : Int) < (n1 : Int) := by omega
      have hne : h ≠ [] := by
        intro e
        subst e
        obtain ⟨k0, hk0⟩ : ∃ k0, H[0]? = some k0 := ⟨_, List.getElem?_eq_getElem (by rw [HL1.out]; omega)⟩
        have hlt0 : k0 < [] := by
          have h1 := (List.getElem?_eq_some_iff.1 hk0)
          have h2 := (List.getElem?_eq_some_iff.1 hh)
          have := List.pairwise_iff_getElem.1 HRISE.out 0 i h1.1 h2.1 (by omega)
          rw [h1.2, h2.2] at this; exact this
        exact lt_nil _ hlt0
      have hhl := HHL.out h (List.mem_of_getElem? hh)
      have hstep := drop_one_take hi1 hh
      obtain ⟨L, hL⟩ : ∃ L, h.length = L := ⟨_, rfl⟩
      have hsz := size_wd h
      have hlp : 1 ≤ h.length := by rcases Nat.eq_zero_or_pos h.length with h0 | h0; exact absurd (List.eq_nil_of_length_eq_zero h0) hne; exact h0
      rw [hL] at hsz hlp hhl
      have hex : (⟨h.toArray⟩ : ByteArray).extract 0 (L - 1) = ⟨h.dropLast.toArray⟩ := by
        apply ByteArray.ext
        simp [ByteArray.data_extract, List.dropLast_eq_take, hL]
      have hLi : (L : Int) - 1 = ((L - 1 : Nat) : Int) := by omega
      obtain ⟨M, hM⟩ : ∃ M, L - 1 = M := ⟨_, rfl⟩
      rw [hM] at hex hLi
      have hML : (M : Int) ≤ (L : Int) := by omega
      have hMw : IntKind.i64.wrap (M : Int) = (M : Int) := by rw [IntKind.wrap_i64]; omega
      have HST := Lib.hid hstep
      have HCN := Lib.hid hcnt
      have HG := Lib.hid hg
      have HL := Lib.hid hL
      clear hh hne hstep hcnt hg hL hM
      have hdl : h.dropLast.length ≤ 900 := by rw [List.length_dropLast, HL.out]; omega
      have hgd := grownBy_drew HG.out
      have hopew := hope_walk h.dropLast C nc cc mo codes wr.drew hdl HCL.out hc2 (HC.out.kept (grownBy_trans HG1.out hgd nofun) nofun) hcc hm3
      have HOPE := Lib.hid hopew
      clear hopew
      go_wp2_with fail
      go_still_tail 13, (by kernel_rfl)
      change wpList _ _ _ _ _ wr.drew
      go_wp2_with fail
      refine HOPE.out.mono ?_
      rintro e w2 ⟨b, rfl, hb, hg2⟩
      have HG2 := Lib.hid (grownBy_trans hgd hg2 nofun)
      have HB := Lib.hid hb
      clear hg2 hb hct hex
      have hcount : (((H.drop 1).take i).filter fun h => hopeS codes mo h.dropLast).length ≤ x + (if b = true then 1 else 0) := by
        rw [HST.out, List.filter_append, List.length_append]
        have h1 := HCN.out
        have h2 : ([h].filter fun h => hopeS codes mo h.dropLast).length ≤ (if b = true then 1 else 0) := by
          by_cases hh : hopeS codes mo h.dropLast = true
          · rw [if_pos (HB.out hh)]; simp [hh]
          · simp [hh]
        omega
      have HCT := Lib.hid hcount
      clear hcount
      cases b
      · go_wp2_with fail
        go_roundw
        case rel => exact ⟨i + 1, x, by omega, .inl (by omega), by go_num, rfl, by omega, by simpa using HCT.out, HG2.out⟩
        case measure => first | (simp [intOf]; done) | (simp [intOf]; omega)
      · go_wp2_with fail
        go_roundw
        case rel => exact ⟨i + 1, x + 1, by omega, .inl (by omega), by go_num, by go_num, by omega, by simpa using HCT.out, HG2.out⟩
        case measure => first | (simp [intOf]; done) | (simp [intOf]; omega)
    · have hfin : mostC codes mo H ≤ x := by
        unfold mostC
        have h1 : (H.drop 1).take (i - 1) = H.drop 1 := List.take_of_length_le (by rw [List.length_drop, HL1.out]; omega)
        rw [h1] at hcnt
        exact hcnt
      have HF := Lib.hid hfin
      have HG := Lib.hid hg
      clear hfin hcnt hg
      go_wp2_with fail
      go_ret
      exact ⟨x, rfl, by rw [HE.out]; exact HF.out, grownBy_trans HG1.out HG.out nofun⟩
end Go.Proofs.YtgcaenckjelijaaDoor
