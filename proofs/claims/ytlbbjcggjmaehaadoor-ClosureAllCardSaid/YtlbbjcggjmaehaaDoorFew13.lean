/-
  Layer 13's few: the walk. Conditions: texts of the rules shorter than 2 to the 60.
-/
import Derived.Test.YtlbbjcggjmaehaaDoorSame
namespace Go.Proofs.YtlbbjcggjmaehaaDoor
open Go Go.RowKit Go.Maps

/-- Rules as they came in. -/
structure RuRaw (w : World) (r : Ru) : Prop where
  cond : CondAt w r.C r.cond
  strip : r.strip.length ≤ 1152921504606846976
  add : r.add.length ≤ 1152921504606846976

def RusRaw (w : World) (A : Option Addr) (l : List Ru) : Prop := Sl w 6 A l.length (ruCells l) ∧ ∀ r ∈ l, RuRaw w r

theorem RuRaw.kept {w w' : World} {r : Ru} (h : RuRaw w r) (g : w.grownBy w' none) : RuRaw w' r := ⟨h.cond.kept g, h.strip, h.add⟩
theorem RusRaw.kept {w w' : World} {A : Option Addr} {l : List Ru} (h : RusRaw w A l) (g : w.grownBy w' none) : RusRaw w' A l := ⟨h.1.kept g nofun, fun r hr => (h.2 r hr).kept g⟩

def FewR (r : Ru) : Prop := r.cond.length ≤ 12 ∧ (∀ x ∈ r.cond, x.set.length ≤ 40) ∧ r.strip.length + r.add.length ≤ 100

theorem raw_cell {w : World} {A : Option Addr} {l : List Ru} (h : RusRaw w A l) {i : Nat} {r : Ru} (hr : l[i]? = some r) :
    ∃ q o, A = some ⟨q, o, none⟩ ∧ w.cell? ⟨q, o + i * 6 + 3, none⟩ = some (.string ⟨r.strip.toArray⟩) ∧ w.cell? ⟨q, o + i * 6 + 4, none⟩ = some (.string ⟨r.add.toArray⟩) ∧ w.cell? ⟨q, o + i * 6 + 5, none⟩ = some (.slice r.C r.cond.length r.cap) := by
  have hi := (List.getElem?_eq_some_iff.1 hr).1
  obtain ⟨q, o, rfl, hc⟩ := h.1.2.2 (by omega)
  have hg := flat_get (f := Ru.row) (k := 6) (fun _ => rfl) hr
  refine ⟨q, o, rfl, ?_, ?_, ?_⟩
  · rw [Nat.add_assoc]; exact hc _ _ (hg 3 (by omega))
  · rw [Nat.add_assoc]; exact hc _ _ (hg 4 (by omega))
  · rw [Nat.add_assoc]; exact hc _ _ (hg 5 (by omega))

theorem all_next {α : Type} {P : α → Prop} {l : List α} {i : Nat} {x : α} (hx : l[i]? = some x) (h : ∀ y ∈ l.take i, P y) (hp : P x) : ∀ y ∈ l.take (i + 1), P y := fun y hy => by
  rw [List.take_add_one, hx] at hy
  rcases List.mem_append.1 hy with hy | hy
  · exact h y hy
  · simp at hy; subst hy; exact hp

def FewRes (rules : List Ru) (n : Nat) (w : World) (e : Ending) (w' : World) : Prop := ∃ b, e = .returned (.bool b) ∧ (b = true → n ≤ 20 ∧ ∀ r ∈ rules, FewR r) ∧ w.grownBy w' none

set_option maxRecDepth 100000 in
set_option maxHeartbeats 4000000 in
theorem few13_walk (rules : List Ru) (A : Option Addr) (n cap : Nat) (w : World) (hn : rules.length = n) (h : RusRaw w A rules) : Calls Tryd.prog 8 #[.slice A n cap] w (FewRes rules n w) := by
  have HN := Lib.hid hn
  have H := Lib.hid h
  clear hn h
  go_enter Tryd.func8, Tryd.ntmps8
  go_wp2_with fail
  go_loopw [3] (fun iv wr => ∃ i : Nat, i ≤ n ∧ i ≤ 20 ∧ iv = .int .i64 (i : Int) ∧ (∀ r ∈ rules.take i, FewR r) ∧ w.grownBy wr none) (fun iv _ => 20 - (RowKit.intOf iv).toNat)
  case atStart => exact ⟨0, Nat.zero_le _, Nat.zero_le _, rfl, by simp, grownBy_refl _ none⟩
  case round =>
    obtain ⟨i, hin, hi20, rfl, hall, hg⟩ := hrel
    have HALL := Lib.hid hall
    have HG := Lib.hid hg
    clear hall
    by_cases hcont : i < n ∧ i < 20
    · obtain ⟨hlt, hlt20⟩ := hcont
      have d1 : decide ((i : Int) < (n : Int)) = true := decide_eq_true (by omega)
      have d2 : decide ((i : Int) < (20 : Int)) = true := decide_eq_true (by omega)
      have hlti : (i : Int) < (n : Int) := by omega
      obtain ⟨r, hr⟩ : ∃ r, rules[i]? = some r := ⟨_, List.getElem?_eq_getElem (by rw [HN.out]; exact hlt)⟩
      have hraw := H.out.2 r (List.mem_of_getElem? hr)
      obtain ⟨q, o, eA, _⟩ := raw_cell H.out hr
      have hcells : ∀ u, w.grownBy u none → u.cell? ⟨q, o + i * 6 + 3, none⟩ = some (.string ⟨r.strip.toArray⟩) ∧ u.cell? ⟨q, o + i * 6 + 4, none⟩ = some (.string ⟨r.add.toArray⟩) ∧ u.cell? ⟨q, o + i * 6 + 5, none⟩ = some (.slice r.C r.cond.length r.cap) := fun u hu => by
        obtain ⟨q', o', e, h1, h2, h3⟩ := raw_cell (H.out.kept hu) hr
        rw [eA] at e
        cases e
        exact ⟨h1, h2, h3⟩
      subst eA
      obtain ⟨lc, hlc⟩ : ∃ lc, r.cond.length = lc := ⟨_, rfl⟩
      rw [hlc] at hcells
      have HCS := Lib.hid hcells
      have HRAW := Lib.hid hraw
      have HRR := Lib.hid hr
      have HLC := Lib.hid hlc
      clear hcells hraw hr hlc hg
      go_wp2_with fail
      go_loopw [4] (fun kv wx => ∃ k : Nat, k ≤ lc ∧ k ≤ 12 ∧ kv = .int .i64 (k : Int) ∧ (∀ x ∈ r.cond.take k, x.set.length ≤ 40) ∧ w.grownBy wx none) (fun kv _ => 12 - (RowKit.intOf kv).toNat)
      case atStart => exact ⟨0, Nat.zero_le _, Nat.zero_le _, rfl, by simp, HG.out⟩
      case round =>
        obtain ⟨k, hkl, hk12, rfl, hsets, hgk⟩ := hrel
        obtain ⟨c3, c4, c5⟩ := HCS.out _ hgk
        have HSETS := Lib.hid hsets
        have HGK := Lib.hid hgk
        clear hsets
        rcases Nat.lt_or_ge k lc with hklt | hkge
        · have p1 : (k : Int) < (lc : Int) := by omega
          have e1 : decide ((k : Int) < (lc : Int)) = true := decide_eq_true p1
          rcases Nat.lt_or_ge k 12 with hk | hk
          · have p2 : (k : Int) < 12 := by omega
            have e2 : decide ((k : Int) < (12 : Int)) = true := decide_eq_true p2
            obtain ⟨x, hx⟩ : ∃ x, r.cond[k]? = some x := ⟨_, List.getElem?_eq_getElem (by rw [HLC.out]; exact hklt)⟩
            obtain ⟨qc, oc, eC, _, _, g2⟩ := it_cell ((HRAW.out.kept hgk).cond) hx
            rw [eC] at c5
            obtain ⟨ls, hls⟩ : ∃ ls, x.set.length = ls := ⟨_, rfl⟩
            rw [hls] at g2
            have HX := Lib.hid (And.intro hx hls)
            clear hx hls eC hgk c3 c4
            rcases Nat.lt_or_ge 40 ls with hbig | hsm
            · have p3 : (40 : Int) < (ls : Int) := by omega
              go_wp2_with fail
              go_ret
              exact ⟨false, rfl, fun h => absurd h (by decide), HGK.out⟩
            · have p3 : ¬ (40 : Int) < (ls : Int) := by omega
              go_wp2_with fail
              go_roundw
              case rel => exact ⟨k + 1, by omega, by omega, by go_num, all_next HX.out.1 HSETS.out (by rw [HX.out.2]; exact hsm), HGK.out⟩
              case measure => simp [RowKit.intOf]; omega
          · obtain rfl : k = 12 := by omega
            have p9 : (12 : Int) < (lc : Int) := by omega
            have e9 : decide ((12 : Int) < (lc : Int)) = true := decide_eq_true p9
            have e9n : decide (12 < lc) = true := decide_eq_true hklt
            clear hgk e1 p1
            go_upto_region 9 with (fail)
            go_quiet (fail)
            go_wp2_with fail
            go_ret
            exact ⟨false, rfl, fun h => absurd h (by decide), grownBy_drewN HGK.out _⟩
        · have p1 : ¬ (k : Int) < (lc : Int) := by omega
          have e1 : decide ((k : Int) < (lc : Int)) = false := decide_eq_false p1
          have hkc : k = lc := by omega
          have p9 : ¬ (12 : Int) < (lc : Int) := by omega
          have e9 : decide ((12 : Int) < (lc : Int)) = false := decide_eq_false p9
          have e9n : decide (12 < lc) = false := decide_eq_false (by omega)
          have hs := HSETS.out
          rw [hkc, ← HLC.out, List.take_length] at hs
          have HS := Lib.hid hs
          have z1 := size_wd r.strip
          have z2 := size_wd r.add
          obtain ⟨l1, hl1⟩ : ∃ l1, r.strip.length = l1 := ⟨_, rfl⟩
          obtain ⟨l2, hl2⟩ : ∃ l2, r.add.length = l2 := ⟨_, rfl⟩
          have hb1 := HRAW.out.strip
          have hb2 := HRAW.out.add
          rw [hl1] at z1 hb1
          rw [hl2] at z2 hb2
          have w12 : IntKind.i64.wrap ((l1 : Int) + (l2 : Int)) = (l1 : Int) + (l2 : Int) := by rw [IntKind.wrap_i64]; omega
          have HL12 := Lib.hid (And.intro hl1 hl2)
          clear hs hkc hl1 hl2 hgk
          rcases Nat.lt_or_ge 100 (l1 + l2) with hbig | hsm
          · have p3 : (100 : Int) < (l1 : Int) + (l2 : Int) := by omega
            have e3 : decide ((100 : Int) < (l1 : Int) + (l2 : Int)) = true := decide_eq_true p3
            go_upto_region 9 with (fail)
            go_quiet (fail)
            go_wp2_with fail
            go_ret
            exact ⟨false, rfl, fun h => absurd h (by decide), grownBy_drewN HGK.out _⟩
          · have p3 : ¬ (100 : Int) < (l1 : Int) + (l2 : Int) := by omega
            have e3 : decide ((100 : Int) < (l1 : Int) + (l2 : Int)) = false := decide_eq_false p3
            go_upto_region 9 with (fail)
            go_quiet (fail)
            go_wp2_with fail
            go_roundw
            case rel =>
              refine ⟨i + 1, by omega, by omega, by go_num, all_next HRR.out HALL.out ⟨by rw [HLC.out]; omega, HS.out, by rw [HL12.out.1, HL12.out.2]; exact hsm⟩, grownBy_drewN HGK.out _⟩
            case measure => simp [RowKit.intOf]; omega
    · rcases Nat.lt_or_ge i n with hlt | hge
      · obtain rfl : i = 20 := by omega
        have p1 : ¬ (n : Int) ≤ 20 := by omega
        have p0 : (20 : Int) < (n : Int) := by omega
        clear hcont hg
        go_wp2_with fail
        go_ret
        exact ⟨_, rfl, fun h => (by simp at h), HG.out⟩
      · have hin2 : i = n := by omega
        have p0 : ¬ (i : Int) < (n : Int) := by omega
        have p1 : (n : Int) ≤ 20 := by omega
        have ha := HALL.out
        rw [hin2, ← HN.out, List.take_length] at ha
        have HA2 := Lib.hid ha
        clear hcont hg ha
        go_wp2_with fail
        go_ret
        exact ⟨_, rfl, fun _ => ⟨by omega, HA2.out⟩, HG.out⟩
end Go.Proofs.YtlbbjcggjmaehaaDoor
