/-
  HistoryPlays: any depth; pushes of any groups, undos, redos by numbers: the program's history and the document's agree. For every input.
-/
import Derived.Test.YtiiaphgencoijaaHistS
import Derived.Test.YtiiaphgencoijaaSame
import Derived.Deep.CutBlock
namespace Go.Proofs.Ytiiaphgencoijaa
open Go Go.RowKit

/-- A list of numbers that came in. -/
def IntsV (w : World) (A : Option Addr) (n : Nat) : Prop := 0 < n → ∃ b o, A = some ⟨b, o, none⟩ ∧ ∀ i, i < n → ∃ x : Int, w.cell? ⟨b, o + i, none⟩ = some (.int .i64 x)

/-- A list of groups that came in. -/
def GroupsV (w : World) (B : Nat) (A : Option Addr) (n : Nat) : Prop := 0 < n → ∃ b o, A = some ⟨b, o, none⟩ ∧ ∀ i, i < n → ∃ A' m c g, w.cell? ⟨b, o + i, none⟩ = some (.slice A' m c) ∧ Sl w 3 A' m g ∧ EditC g m ∧ ∀ l, B ≤ l → Off A' m l

theorem IntsV.kept {w w' : World} {A : Option Addr} {n : Nat} (h : IntsV w A n) (g : w.grownBy w' none) : IntsV w' A n := by
  intro hn
  obtain ⟨b, o, rfl, hc⟩ := h hn
  refine ⟨b, o, rfl, fun i hi => ?_⟩
  obtain ⟨x, hx⟩ := hc i hi
  exact ⟨x, g.cell hx nofun⟩

theorem GroupsV.kept {w w' : World} {B : Nat} {A : Option Addr} {n : Nat} (h : GroupsV w B A n) (g : w.grownBy w' none) : GroupsV w' B A n := by
  intro hn
  obtain ⟨b, o, rfl, hc⟩ := h hn
  refine ⟨b, o, rfl, fun i hi => ?_⟩
  obtain ⟨A', m, c, gg, hx, hs, he, ho⟩ := hc i hi
  exact ⟨A', m, c, gg, g.cell hx nofun, hs.kept g nofun, he, ho⟩

theorem hist_push_none2 (b : Nat) (a : Option Addr) (c : Nat) (w : World) :
    Calls Try.prog 16 #[.pointer (some ⟨b, 0, none⟩), .slice a 0 c] w fun e w' => e = .returned (.tuple #[]) ∧ w = w' := push_none b a c w

/-- Every group of a list is of edits. -/
def AllE (U : List (List Value)) : Prop := ∀ g ∈ U, ∃ n, g.length = n * 3 ∧ EditC g n

theorem AllE.sub {U V : List (List Value)} (h : AllE U) (hs : ∀ g ∈ V, g ∈ U) : AllE V := fun g hg => h g (hs g hg)

theorem AllE.push {U : List (List Value)} {d n : Nat} {g : List Value} (h : AllE U) (hl : g.length = n * 3) (he : EditC g n) : AllE (pushU d U g) := by
  have h1 : AllE (U ++ [g]) := by
    intro x hx
    rcases List.mem_append.1 hx with hx | hx
    · exact h x hx
    · simp at hx; subst hx; exact ⟨n, hl, he⟩
  unfold pushU
  split
  · exact h1
  · exact h1.sub fun g hg => List.mem_of_mem_tail hg

theorem len_pushU (d : Nat) (U : List (List Value)) (g : List Value) (h : U.length ≤ d) : (pushU d U g).length ≤ d := by
  unfold pushU; split <;> simp <;> omega

theorem RefH.cells {w : World} {b d : Nat} {L : List Nat} {U R : List (List Value)} (h : RefH w b d L U R) :
    ∃ UA uc RA rc, w.cell? ⟨b, 1, none⟩ = some (.slice UA U.length uc) ∧ w.cell? ⟨b, 2, none⟩ = some (.slice RA R.length rc) := by
  obtain ⟨hb, hL, hu, hr', UA, uc, RA, rc, us, rs, hh, _⟩ := h
  exact ⟨UA, uc, RA, rc, cell_of_heap hh 1, cell_of_heap hh 2⟩

theorem AllE.last {U : List (List Value)} {g : List Value} (h : AllE (U ++ [g])) : AllE U ∧ ∃ n, g.length = n * 3 ∧ EditC g n :=
  ⟨h.sub fun x hx => by simp [hx], h g (by simp)⟩

theorem AllE.head {U : List (List Value)} {g : List Value} (h : AllE (g :: U)) : AllE U ∧ ∃ n, g.length = n * 3 ∧ EditC g n :=
  ⟨h.sub fun x hx => by simp [hx], h g (by simp)⟩

theorem AllE.cons {U : List (List Value)} {g : List Value} {n : Nat} (h : AllE U) (hl : g.length = n * 3) (he : EditC g n) : AllE (g :: U) := by
  intro x hx
  rcases List.mem_cons.1 hx with rfl | hx
  · exact ⟨n, hl, he⟩
  · exact h x hx

theorem AllE.snoc {U : List (List Value)} {g : List Value} {n : Nat} (h : AllE U) (hl : g.length = n * 3) (he : EditC g n) : AllE (U ++ [g]) := by
  intro x hx
  rcases List.mem_append.1 hx with hx | hx
  · exact h x hx
  · simp at hx; subst hx; exact ⟨n, hl, he⟩

/-- The one edit that is pushed where the groups are used up. -/
theorem editC_one (a : Int) (s t : ByteArray) : EditC [.int .i64 a, .string s, .string t] 1 := fun i hi => by
  obtain rfl : i = 0 := by omega
  exact ⟨a, s, t, rfl, rfl, rfl⟩

set_option maxRecDepth 100000 in
set_option maxHeartbeats 4000000 in
theorem plays_walk (a0 : Int) (GA SA : Option Addr) (gn gc sn sc : Nat) (w : World) (hG : GroupsV w w.heap.size GA gn) (hS : IntsV w SA sn) :
    Calls Try.prog 3 #[.int .i64 a0, .slice GA gn gc, .slice SA sn sc] w (TrueRes w) := by
  obtain ⟨j0, hj, hy0, hy1, hy2⟩ := info_parts hist_info31
  have HG := Lib.hid hG
  have HS := Lib.hid hS
  clear hG hS
  go_enter Try.func3, Try.ntmps3
  go_wp2_with fail
  refine (hist_new a0 [] w nofun).mono ?_
  rintro e w1 ⟨rfl, hg1, hs1, D, hD50, hD, hh⟩
  go_wp2_with fail
  refine (refh_new a0 [w.heap.size] w1 (by simpa using hs1)).mono ?_
  rintro e w2 ⟨rfl, hg2, hs2, D', hD50', hD', hr⟩
  obtain rfl : D = D' := by omega
  have hh2 := hh.more hg2 (Nat.le_refl _) hs2
  have hgw := grownBy_trans hg1 hg2 nofun
  have hh0 := Lib.hid hh2
  have hr0 := Lib.hid hr
  clear hh hh2 hr hD hD' hg1 hg2
  by_cases hg60 : 60 < gn
  · go_wp2_with fail
    refine (awake08_any w2).mono ?_
    rintro e w3 ⟨rfl, hg3⟩
    go_wp2_with fail
    go_ret
    exact ⟨rfl, grownBy_trans hgw hg3 nofun⟩
  by_cases hs150 : 150 < sn
  · go_wp2_with fail
    refine (awake08_any w2).mono ?_
    rintro e w3 ⟨rfl, hg3⟩
    go_wp2_with fail
    go_ret
    exact ⟨rfl, grownBy_trans hgw hg3 nofun⟩
  have d60 : decide ((60 : Int) < gn) = false := by simp; omega
  have d150 : decide ((150 : Int) < sn) = false := by simp; omega
  have hbb : w.heap.size < w1.heap.size := hs1
  have hSw := fun (wr : World) (g : w.grownBy wr none) => Lib.hid (HS.out.kept g)
  have hGw := fun (wr : World) (g : w.grownBy wr none) => Lib.hid (HG.out.kept g)
  go_wp2_with fail
  go_loopw [9, 10] (fun at_ i wr => ∃ (k m : Nat) (U R : List (List Value)), k ≤ sn ∧ m ≤ k ∧ at_ = .int .i64 m ∧ i = .int .i64 k ∧ U.length + R.length ≤ D ∧ AllE U ∧ AllE R ∧ (∃ L, w1.heap.size ∈ L ∧ Hist wr w.heap.size D L U R) ∧ RefH wr w1.heap.size D [w1.heap.size, w.heap.size] U R ∧ w.grownBy wr none)
    (fun _ i _ => sn - (intOf i).toNat)
  case atStart => exact ⟨0, 0, [], [], Nat.zero_le _, Nat.zero_le _, rfl, rfl, by simp, by intro g h; simp at h, by intro g h; simp at h, ⟨_, by simp, hh0.out⟩, hr0.out, hgw⟩
  case round =>
    obtain ⟨k, m, U, R, hk, hmk, rfl, rfl, hlen, hU, hR, ⟨L, hL, hh⟩, hr, hg⟩ := hrel
    have hbw1 : w1.heap.size < wr.heap.size := hr.2.1 _ (by simp)
    by_cases hlt : k < sn
    · obtain ⟨p, o, rfl, hc⟩ := (hSw wr hg).out (by omega)
      obtain ⟨x, hx⟩ := hc k hlt
      obtain ⟨K, hK⟩ : ∃ K, K = x % 8 := ⟨_, rfl⟩
      have hK0 : 0 ≤ K := by omega
      have hK8 : K < 8 := by omega
      have HK := Lib.hid hK.symm
      clear hc hK
      go_wp2_with fail
      refine (place_any x 8 wr (by omega) (by omega)).mono ?_
      rintro e w' ⟨rfl, rfl⟩
      rw [HK.out]
      clear hx
      go_upto_block 2 with (fail)
      go_cut [9] (fun at_ wx => ∃ (m' : Nat) (U' R' : List (List Value)), m' ≤ k + 1 ∧ at_ = .int .i64 m' ∧ U'.length + R'.length ≤ D ∧ AllE U' ∧ AllE R' ∧ (∃ L, w1.heap.size ∈ L ∧ Hist wx w.heap.size D L U' R') ∧ RefH wx w1.heap.size D [w1.heap.size, w.heap.size] U' R' ∧ w.grownBy wx none)
      case first =>
        by_cases hK4 : K < 4
        · have hal := World.grownBy_alloc wr (.cells #[.int .i64 k, .string ⟨#[]⟩, .string ⟨#[120]⟩] 31) none
          have hgo := World.ownsRow_lit (base := 0) (size := 3) (e := 31) wr #[.int .i64 k, .string ⟨#[]⟩, .string ⟨#[120]⟩] 1 (Nat.zero_le _) (by decide) rfl
          have hgx := grownBy_trans hg hal nofun
          have hhx := hh.kept hal nofun
          have hrx := hr.kept hal nofun
          by_cases hmg : m < gn
          · obtain ⟨p', o', rfl, hc'⟩ := (hGw _ hgx).out (by omega)
            obtain ⟨A', n', c', g, cg, hsx, hex, hox⟩ := hc' m hmg
            have hoff := hox w.heap.size (Nat.le_refl _)
            clear hc' hgo
            by_cases h20 : 20 < n'
            · go_wp2_with fail
              refine (awake08_any _).mono ?_
              rintro e w5 ⟨rfl, hg5⟩
              go_wp2_with fail
              go_ret
              exact ⟨rfl, grownBy_trans hgx hg5 nofun⟩
            · rcases Nat.eq_zero_or_pos n' with rfl | hn0
              · go_wp2_with (at_builtin; refine wpList_append_sl _ rfl _ _ 32 rfl w.heap.size 31 j0 _ 3 40 Try.underlying32 hj hy0 hy1 hy2 rfl (by decide) (.slice none 0 0) 0 [] rfl (World.ownsRow_nil _ _ _ _) A' 0 c' g rfl hsx (by unfold maxLen; omega) (by omega) hgx.size ?_)
                rintro v1 w5 ⟨hown5, hg5, _⟩
                have hg5' : World.grownBy _ w5 none := hg5
                obtain ⟨A5, c5, hv5⟩ : ∃ A5 c5, v1 = .slice A5 0 c5 := by
                  rcases hown5.2 with ⟨hv, _⟩ | ⟨q, cap, _, hv, _⟩
                  · exact ⟨_, _, hv⟩
                  · exact ⟨_, _, by simpa using hv⟩
                subst hv5
                have hh5 := hhx.kept hg5' nofun
                have hr5 := hrx.kept hg5' nofun
                go_wp2_with fail
                refine (hist_push_none2 w.heap.size A5 c5 w5).mono ?_
                rintro e w6 ⟨rfl, rfl⟩
                go_wp2_with fail
                refine (refh_push_none w1.heap.size A' c' w5).mono ?_
                rintro e w6 ⟨rfl, rfl⟩
                go_wp2_with fail
                go_meet
                exact ⟨m + 1, U, R, by omega, by go_num, hlen, hU, hR, ⟨L, hL, hh5⟩, hr5, grownBy_trans hgx hg5' nofun⟩
              · go_wp2_with (at_builtin; refine wpList_append_sl _ rfl _ _ 32 rfl w.heap.size 31 j0 _ 3 40 Try.underlying32 hj hy0 hy1 hy2 rfl (by decide) (.slice none 0 0) 0 [] rfl (World.ownsRow_nil _ _ _ _) A' n' c' g rfl hsx (by unfold maxLen; omega) (by omega) hgx.size ?_)
                rintro v1 w5 ⟨hown5, hg5, _⟩
                have hg5' : World.grownBy _ w5 none := hg5
                obtain ⟨q5, cap5, hv5, _, _, _⟩ := own_form hown5 hn0
                subst hv5
                have hh5 := hhx.kept hg5' nofun
                have hr5 := hrx.kept hg5' nofun
                have hs5 := hsx.kept hg5' nofun
                go_wp2_with fail
                refine (hist_push w.heap.size D L U R ⟨q5, 0, none⟩ n' cap5 g w5 hh5 hn0 (by omega) hsx.1 (hown5.cells rfl) hsx.2.1).mono ?_
                rintro e w6 ⟨rfl, hg6, hh6⟩
                have hr6 := hr5.kept hg6 (by intro l e; cases e; exact ⟨by omega, .inl (by simp)⟩)
                have hs6 : Sl w6 3 A' n' g := hs5.kept hg6 (by intro l e; cases e; exact hoff)
                go_wp2_with fail
                refine (refh_push w1.heap.size D _ U R A' n' c' g w6 hr6 hD50 (by omega) hn0 (by omega) hs6).mono ?_
                rintro e w7 ⟨rfl, hg7, hr7⟩
                have hh7 := hh6.kept hg7 (by intro l e; cases e; exact ⟨by omega, hL⟩)
                go_wp2_with fail
                go_meet
                exact ⟨m + 1, _, [], by omega, by go_num, by have := len_pushU D U g (by omega); simpa using this, hU.push hsx.1 hex, by intro x hx; simp at hx, ⟨L, hL, hh7⟩, hr7, grownBy_trans (grownBy_trans (grownBy_trans hgx hg5' nofun) hg6 (by intro i e; cases e; exact .inr (Nat.le_refl _))) hg7 (by intro i e; cases e; exact .inr (by omega))⟩
          · obtain ⟨A', n', c', g, hA', hsx, hex⟩ : ∃ A' n' c' g, (A' = some ⟨wr.heap.size, 0, none⟩ ∧ n' = 1 ∧ c' = 1) ∧ Sl (wr.alloc (.cells #[.int .i64 k, .string ⟨#[]⟩, .string ⟨#[120]⟩] 31)) 3 A' n' g ∧ EditC g n' :=
              ⟨_, 1, 1, _, ⟨rfl, rfl, rfl⟩, Sl.of_own hgo (cells_edit1 _ _ _), editC_one _ _ _⟩
            obtain ⟨rfl, rfl, rfl⟩ := hA'
            have hoff : Off (some ⟨wr.heap.size, 0, none⟩) 1 w.heap.size := fun _ a ha e => by cases ha; simp at e; omega
            clear hgo
            go_wp2_with (at_builtin; refine wpList_append_sl _ rfl _ _ 32 rfl w.heap.size 31 j0 _ 3 40 Try.underlying32 hj hy0 hy1 hy2 rfl (by decide) (.slice none 0 0) 0 [] rfl (World.ownsRow_nil _ _ _ _) (some ⟨wr.heap.size, 0, none⟩) 1 1 g rfl hsx (by unfold maxLen; omega) (by omega) hgx.size ?_)
            rintro v1 w5 ⟨hown5, hg5, _⟩
            have hg5' : World.grownBy _ w5 none := hg5
            obtain ⟨q5, cap5, hv5, _, _, _⟩ := own_form hown5 (by omega)
            subst hv5
            have hh5 := hhx.kept hg5' nofun
            have hr5 := hrx.kept hg5' nofun
            have hs5 := hsx.kept hg5' nofun
            go_wp2_with fail
            refine (hist_push w.heap.size D L U R ⟨q5, 0, none⟩ 1 cap5 g w5 hh5 (by omega) (by omega) hsx.1 (hown5.cells rfl) hsx.2.1).mono ?_
            rintro e w6 ⟨rfl, hg6, hh6⟩
            have hr6 := hr5.kept hg6 (by intro l e; cases e; exact ⟨by omega, .inl (by simp)⟩)
            have hs6 : Sl w6 3 (some ⟨wr.heap.size, 0, none⟩) 1 g := hs5.kept hg6 (by intro l e; cases e; exact hoff)
            go_wp2_with fail
            refine (refh_push w1.heap.size D _ U R (some ⟨wr.heap.size, 0, none⟩) 1 1 g w6 hr6 hD50 (by omega) (by omega) (by omega) hs6).mono ?_
            rintro e w7 ⟨rfl, hg7, hr7⟩
            have hh7 := hh6.kept hg7 (by intro l e; cases e; exact ⟨by omega, hL⟩)
            go_wp2_with fail
            go_meet
            exact ⟨m + 1, _, [], by omega, by go_num, by have := len_pushU D U g (by omega); simpa using this, hU.push hsx.1 hex, by intro x hx; simp at hx, ⟨L, hL, hh7⟩, hr7, grownBy_trans (grownBy_trans (grownBy_trans hgx hg5' nofun) hg6 (by intro i e; cases e; exact .inr (Nat.le_refl _))) hg7 (by intro i e; cases e; exact .inr (by omega))⟩
        by_cases hK6 : K < 6
        · rcases List.eq_nil_or_concat U with rfl | ⟨U0, g, rfl⟩
          · go_wp2_with fail
            refine (hist_undo_none w.heap.size D L R wr hh).mono ?_
            rintro e w3 ⟨rfl, rfl⟩
            go_wp2_with fail
            refine (refh_undo_none w1.heap.size D _ R wr hr).mono ?_
            rintro e w3 ⟨rfl, rfl⟩
            go_wp2_with fail
            refine (samegroup_same none none 0 0 0 [] wr (by omega) (Sl.nil _ _ _) (Sl.nil _ _ _) (fun i hi => by omega)).mono ?_
            rintro e w3 ⟨rfl, hg3⟩
            go_wp2_with fail
            go_meet
            exact ⟨m, [], R, by omega, rfl, hlen, hU, hR, ⟨L, hL, hh.kept hg3 nofun⟩, hr.kept hg3 nofun, grownBy_trans hg hg3 nofun⟩
          · rw [List.concat_eq_append] at hh hr hU hlen
            simp only [List.length_append, List.length_cons, List.length_nil, Nat.zero_add] at hlen
            obtain ⟨hU0, n0, hl0, he0⟩ := hU.last
            go_wp2_with fail
            refine (hist_undo w.heap.size D L U0 R g wr hh).mono ?_
            rintro e w3 ⟨q, n, cap, rfl, hg3, ho3, hh3⟩
            have hr3 := hr.kept hg3 (by intro l e; cases e; exact ⟨by omega, .inl (by simp)⟩)
            have hq3 := ho3.lt q rfl
            go_wp2_with fail
            refine (refh_undo w1.heap.size D _ U0 R g w3 hr3 (by omega)).mono ?_
            rintro e w4 ⟨A4, n4, c4, rfl, hg4, hn4, hs4, hr4⟩
            have hh4 := hh3.kept hg4 (by intro l e; cases e; exact ⟨by omega, List.mem_cons_of_mem _ hL⟩)
            obtain rfl : n = n4 := by have := ho3.1; have := hs4.1; omega
            obtain rfl : n = n0 := by have := ho3.1; omega
            have hs3 : Sl w4 3 (some ⟨q, 0, none⟩) n g := (Sl.of_own ho3 hs4.2.1).kept hg4 (by intro l e; cases e; intro _ a ha e'; cases ha; simp at e'; omega)
            have hgx := grownBy_trans (grownBy_trans hg hg3 (by intro i e; cases e; exact .inr (Nat.le_refl _))) hg4 (by intro i e; cases e; exact .inr (by omega))
            go_wp2_with fail
            refine (samegroup_same (some ⟨q, 0, none⟩) A4 n cap c4 g w4 (by omega) hs3 hs4 he0).mono ?_
            rintro e w5 ⟨rfl, hg5⟩
            go_wp2_with fail
            go_meet
            exact ⟨m, U0, g :: R, by omega, rfl, by simp; omega, hU0, hR.cons hl0 he0, ⟨_, List.mem_cons_of_mem _ hL, hh4.kept hg5 nofun⟩, hr4.kept hg5 nofun, grownBy_trans hgx hg5 nofun⟩
        · rcases R with _ | ⟨g, R0⟩
          · go_wp2_with fail
            refine (hist_redo_none w.heap.size D L U wr hh).mono ?_
            rintro e w3 ⟨rfl, rfl⟩
            go_wp2_with fail
            refine (refh_redo_none w1.heap.size D _ U wr hr).mono ?_
            rintro e w3 ⟨rfl, rfl⟩
            go_wp2_with fail
            refine (samegroup_same none none 0 0 0 [] wr (by omega) (Sl.nil _ _ _) (Sl.nil _ _ _) (fun i hi => by omega)).mono ?_
            rintro e w3 ⟨rfl, hg3⟩
            go_wp2_with fail
            go_meet
            exact ⟨m, U, [], by omega, rfl, hlen, hU, hR, ⟨L, hL, hh.kept hg3 nofun⟩, hr.kept hg3 nofun, grownBy_trans hg hg3 nofun⟩
          · simp only [List.length_cons] at hlen
            obtain ⟨hR0, n0, hl0, he0⟩ := hR.head
            go_wp2_with fail
            refine (hist_redo w.heap.size D L U R0 g wr hh).mono ?_
            rintro e w3 ⟨q, n, cap, rfl, hg3, ho3, hh3⟩
            have hr3 := hr.kept hg3 (by intro l e; cases e; exact ⟨by omega, .inl (by simp)⟩)
            have hq3 := ho3.lt q rfl
            go_wp2_with fail
            refine (refh_redo w1.heap.size D _ U R0 g w3 hr3 (by omega)).mono ?_
            rintro e w4 ⟨A4, n4, c4, rfl, hg4, hn4, hs4, hr4⟩
            have hh4 := hh3.kept hg4 (by intro l e; cases e; exact ⟨by omega, List.mem_cons_of_mem _ hL⟩)
            obtain rfl : n = n4 := by have := ho3.1; have := hs4.1; omega
            obtain rfl : n = n0 := by have := ho3.1; omega
            have hs3 : Sl w4 3 (some ⟨q, 0, none⟩) n g := (Sl.of_own ho3 hs4.2.1).kept hg4 (by intro l e; cases e; intro _ a ha e'; cases ha; simp at e'; omega)
            have hgx := grownBy_trans (grownBy_trans hg hg3 (by intro i e; cases e; exact .inr (Nat.le_refl _))) hg4 (by intro i e; cases e; exact .inr (by omega))
            go_wp2_with fail
            refine (samegroup_same (some ⟨q, 0, none⟩) A4 n cap c4 g w4 (by omega) hs3 hs4 he0).mono ?_
            rintro e w5 ⟨rfl, hg5⟩
            go_wp2_with fail
            go_meet
            exact ⟨m, U ++ [g], R0, by omega, rfl, by simp; omega, hU.snoc hl0 he0, hR0, ⟨_, List.mem_cons_of_mem _ hL, hh4.kept hg5 nofun⟩, hr4.kept hg5 nofun, grownBy_trans hgx hg5 nofun⟩
      case rest =>
        obtain ⟨m', U', R', hm', rfl, hlen', hU', hR', ⟨L', hL', hh'⟩, hr', hg'⟩ := hcut
        go_wp2_with fail
        refine (hist_len _ _ _ _ _ U'.length R'.length _ hh' rfl rfl).mono ?_
        rintro e w3 ⟨rfl, hg3⟩
        have hr3 := hr'.kept hg3 nofun
        have hh3 := hh'.kept hg3 nofun
        have hgx := grownBy_trans hg' hg3 nofun
        obtain ⟨UA, uc, RA, rc, c1, c2⟩ := hr3.cells
        go_wp2_with fail
        go_roundw
        case rel => exact ⟨k + 1, m', U', R', by omega, hm', rfl, by go_num, hlen', hU', hR', ⟨L', hL', hh3⟩, hr3, hgx⟩
        case measure => simp [intOf]; omega
    · obtain rfl : k = sn := by omega
      go_wp2_with fail
      refine (awake08_any wr).mono ?_
      rintro e w3 ⟨rfl, hg3⟩
      go_wp2_with fail
      go_ret
      exact ⟨rfl, grownBy_trans hg hg3 nofun⟩
end Go.Proofs.Ytiiaphgencoijaa
