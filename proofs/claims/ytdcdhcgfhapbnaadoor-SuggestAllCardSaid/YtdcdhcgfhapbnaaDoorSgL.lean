/-
  Layer 19's laws: the example; few; a dictionary that is built, and what is offered. Conditions: unicode/utf8's two tables as they are laid.
-/
import Derived.Test.YtdcdhcgfhapbnaaDoorSgQ
import Derived.Test.YtdcdhcgfhapbnaaDoorWalks
namespace Go.Proofs.YtdcdhcgfhapbnaaDoor.Sg
open Go Go.RowKit Go.Maps

theorem top_built {V : List Wd} {r : Nat × List DSt} (hbt : Built V r) {B M base0 : Nat} {lv : Value} {w : World} (hbd : Bd w (fun _ => False) B M base0 lv (r.1 : Int) r.2) (more : List Wd) (word : Wd) (K : Int) (MA : Option Addr) (mn mc : Nat)
    (hmn : more.length = mn) (hmn2 : mn ≤ 500) (hM : Sl w 1 MA mn (strCells more)) (hml : ∀ t ∈ more, t.length ≤ 1000) (hwl : word.length ≤ 1000)
    (hT : Lib.Utf8Tabs 0 1 w) :
    Calls Tryd.prog 11 #[.pointer (some ⟨B, 0, none⟩), .slice MA mn mc, .string ⟨word.toArray⟩, .int .i64 K] w (AnsRes (ansT V more word K).1 (ansT V more word K).2 w) := by
  refine (top_walk (.pointer (some ⟨B, 0, none⟩)) V more word K MA mn mc w (fun cs _ h24 CA cc wx hg hC => ?_) (fun cs => ?_) hmn (by omega) hM hml hwl hT).mono fun e w' h => TopRes.ans hbt.rise h
  · have h5 := Walk_walk B M base0 lv r.1 r.2 CA cs.length cc cs 2 wx (hbd.kept hg) hbt.tidy.1 rfl (by omega) hC (tabs_kept hT hg) hbt.tidy.2.1 (by have := hbt.tidy.2.2; omega) (hbt.bounds cs _).1 (hbt.bounds cs _).2
    rw [hbt.offers, show mostS 2 = 2 from by decide] at h5
    exact h5
  · have := offers_len cs 2 V
    have := hbt.few
    omega

theorem cet_ans : ansT catW [] [99, 101, 116] 5 = ([([99, 97, 116], 1), ([99, 117, 116], 1)], 0) := by decide +kernel
theorem nil_ans : ansT catW [] [] 5 = ([], 1) := by decide +kernel

set_option maxRecDepth 100000 in
set_option maxHeartbeats 2000000 in
theorem awake19_walk (w : World) (hT : Lib.Utf8Tabs 0 1 w) : Calls Tryd.prog 9 #[] w (TrueRes w) := by
  obtain ⟨r, hr⟩ : ∃ r, buildS 201 catW [] = r := ⟨_, rfl⟩
  have hbt : Built catW r := ⟨cat_rise, by decide, by decide, hr⟩
  have hown := words_own (ss := catW) (World.ownsRow_lit (base := 0) (size := 1) (e := 9) w #[.string ⟨#[99, 97, 116]⟩, .string ⟨#[99, 117, 116]⟩, .string ⟨#[100, 111, 103]⟩] 3 (Nat.zero_le _) (by decide) rfl) (by decide)
  have HO := Lib.hid hown
  have HR := Lib.hid hr
  have HBT := Lib.hid hbt
  have HT := Lib.hid hT
  clear hown hr hbt hT
  go_enter Tryd.func9, Tryd.ntmps9
  go_wp2_with fail
  refine (build_walk catW _ 3 3 _ HO.out).mono ?_
  rintro e w1 hb
  obtain ⟨hg, B, M, lv, rfl, hB, hbd⟩ := build_ok hb cat_canon (by decide) HR.out
  have hg0 := grownBy_trans (World.grownBy_alloc w (.cells #[.string ⟨#[99, 97, 116]⟩, .string ⟨#[99, 117, 116]⟩, .string ⟨#[100, 111, 103]⟩] 9) none) hg nofun
  have H := Lib.hid hbd
  have HG0 := Lib.hid hg0
  have hT1 := top_built HBT.out hbd [] [99, 101, 116] 5 none 0 0 rfl (by decide) (Sl.nil _ _ _) (by simp) (by decide) (tabs_kept HT.out hg0)
  rw [cet_ans] at hT1
  have HT1 := Lib.hid hT1
  clear hbd hb hg HO hg0 hT1
  go_wp2_with fail
  refine HT1.out.mono ?_
  rintro e w2 ⟨A2, c2, rfl, hs2, hg2⟩
  have hT2 := top_built HBT.out (H.out.kept hg2) [] [] 5 none 0 0 rfl (by decide) (Sl.nil _ _ _) (by simp) (by decide) (tabs_kept HT.out (grownBy_trans HG0.out hg2 nofun))
  rw [nil_ans] at hT2
  have HT2 := Lib.hid hT2
  have HS2 := Lib.hid hs2
  have HG2 := Lib.hid (grownBy_trans HG0.out hg2 nofun)
  clear hs2 hg2 hT2
  go_wp2_with fail
  refine HT2.out.mono ?_
  rintro e w3 ⟨A3, c3, rfl, _, hg3⟩
  obtain ⟨q, o, rfl, hc⟩ := (HS2.out.kept hg3 nofun).2.2 (by decide)
  have x0 : w3.cell? ⟨q, o, none⟩ = some (.string ⟨#[99, 97, 116]⟩) := hc 0 _ rfl
  have x1 : w3.cell? ⟨q, o + 1, none⟩ = some (.int .i64 1) := hc 1 _ rfl
  have x2 : w3.cell? ⟨q, o + 2, none⟩ = some (.string ⟨#[99, 117, 116]⟩) := hc 2 _ rfl
  have x3 : w3.cell? ⟨q, o + 3, none⟩ = some (.int .i64 1) := hc 3 _ rfl
  have x3' : w3.cell? ⟨q, o + 2 + 1, none⟩ = some (.int .i64 1) := hc 3 _ rfl
  have HG3 := Lib.hid (grownBy_trans HG2.out hg3 nofun)
  clear hc hg3
  go_wp2_with fail
  go_ret
  exact ⟨rfl, HG3.out⟩
end Go.Proofs.YtdcdhcgfhapbnaaDoor.Sg
