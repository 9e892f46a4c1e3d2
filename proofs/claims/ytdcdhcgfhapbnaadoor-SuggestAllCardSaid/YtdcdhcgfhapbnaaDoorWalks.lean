/-
  Layer 18's walks: both ways, with how many steps there may be: the walk: true. Conditions: words that are not too much, at most 26 codes; unicode/utf8's two tables as they are laid.
-/
import Derived.Test.YtdcdhcgfhapbnaaDoorWalkW
import Derived.Test.YtdcdhcgfhapbnaaDoorDawgWp
import Derived.Test.YtdcdhcgfhapbnaaDoorStrs
import Derived.Test.YtdcdhcgfhapbnaaDoorWalkLaw
import Derived.Test.YtdcdhcgfhapbnaaDoorMost
import Derived.Test.YtdcdhcgfhapbnaaDoorOpenW
import Derived.Test.YtdcdhcgfhapbnaaDoorWalkR
namespace Go.Proofs.YtdcdhcgfhapbnaaDoor
open Go Go.RowKit Go.Maps

/-- What Build has built is fit to be walked. -/
theorem ready {V : List Wd} (hr : Rise V) (hb : ∀ w ∈ V, w.length < 201) {r : Nat × List DSt} (h : buildS 201 V [] = r) :
    (∀ (i : Nat) (s : DSt), r.2[i]? = some s → s.2.Pairwise (fun a b => a.1 < b.1) ∧ ∀ e ∈ s.2, e.2 < i) ∧ r.1 < r.2.length + 1 ∧ r.2.length ≤ 1 + tot V := by
  have h1 := buildS_inv 201 V [] r.2 hb hr (by decide) (by rw [h]; exact List.prefix_refl _) ⟨List.Pairwise.nil, by simp⟩
  have h2 := (buildS_ok 201 V [] hb hr (by decide)).2
  have h3 := buildS_len 201 V [] hb hr
  rw [h] at h1 h2 h3
  refine ⟨fun i s hi => ⟨(h1.2 i s hi).1, fun e he => ((h1.2 i s hi).2 e he).1⟩, by omega, by simpa using h3⟩

/-- An offer's two cells. -/
theorem offer_cell {w : World} {base q n c : Nat} {l : List (Wd × Nat)} (h : w.ownsRow base 41 2 (.slice (some ⟨q, 0, none⟩) n c) n (offCells l)) {i : Nat} {o : Wd × Nat} (ho : l[i]? = some o) :
    w.cell? ⟨q, 2 * i, none⟩ = some (.string ⟨o.1.toArray⟩) ∧ w.cell? ⟨q, 2 * i + 1, none⟩ = some (.int .i64 (o.2 : Int)) := by
  have key : ∀ (l : List (Wd × Nat)) (i : Nat), l[i]? = some o → (offCells l)[2 * i]? = some (.string ⟨o.1.toArray⟩) ∧ (offCells l)[2 * i + 1]? = some (.int .i64 (o.2 : Int)) := by
    intro l
    induction l with
    | nil => intro i h; simp at h
    | cons a t ih =>
      intro i h
      rcases i with _ | i
      · simp at h; subst h
        simp [offCells]
      · have := ih i (by simpa using h)
        rw [show 2 * (i + 1) = 2 * i + 1 + 1 by omega]
        simpa [offCells] using this
  obtain ⟨k1, k2⟩ := key l i ho
  have g1 := h.cells (g := q) rfl _ _ k1
  have g2 := h.cells (g := q) rfl _ _ k2
  rw [Addr.add_lit, Nat.zero_add] at g1 g2
  exact ⟨g1, g2⟩

def catW : List Wd := [[99, 97, 116], [99, 117, 116], [100, 111, 103]]

theorem cat_rise : Rise catW := by unfold Rise; decide
theorem cat_canon : canon catW = catW := canon_of_rise cat_rise (fun _ => Iff.rfl)
theorem cat_walk : (walkS (buildS 201 catW []).2 (buildS 201 catW []).1 [99, 101, 116] (mostS 1)).l = [([99, 97, 116], 1), ([99, 117, 116], 1)] ∧ (walkS (buildS 201 catW []).2 (buildS 201 catW []).1 [99, 101, 116] (mostS 1)).steps ≤ 1000000 := by decide +kernel

end Go.Proofs.YtdcdhcgfhapbnaaDoor

namespace Go.Proofs.YtdcdhcgfhapbnaaDoor
open Go Go.RowKit Go.Maps

def okW (s : Wd) : Bool := decide (s.length ≤ 20) && s.all (fun b => b != 0)
def fewS (ss : List Wd) : Bool := (ss.take 40).all okW && decide (ss.length ≤ 40)

theorem all_take {α : Type} {p : α → Bool} {l : List α} {k : Nat} {x : α} (h : l[k]? = some x) (hk : (l.take k).all p = true) : (p x = true → (l.take (k + 1)).all p = true) ∧ ∀ m, k < m → p x = false → (l.take m).all p = false := by
  constructor
  · intro hx
    rw [List.take_add_one, h, List.all_append, hk]; simp [hx]
  · intro m hm hx
    rw [List.all_eq_false]
    refine ⟨x, ?_, by simp [hx]⟩
    have : (l.take m)[k]? = some x := by rw [List.getElem?_take_of_lt hm]; exact h
    exact List.mem_of_getElem? this

theorem few_ok {ss : List Wd} (h : fewS ss = true) : ss.length ≤ 40 ∧ ∀ s ∈ ss, s.length ≤ 20 ∧ ∀ b ∈ s, b ≠ 0 := by
  unfold fewS at h
  rw [Bool.and_eq_true] at h
  have hl := of_decide_eq_true h.2
  rw [List.take_of_length_le hl] at h
  refine ⟨hl, fun s hs => ?_⟩
  have := List.all_eq_true.1 h.1 s hs
  unfold okW at this
  rw [Bool.and_eq_true] at this
  exact ⟨of_decide_eq_true this.1, fun b hb => by simpa using List.all_eq_true.1 this.2 b hb⟩
end Go.Proofs.YtdcdhcgfhapbnaaDoor

namespace Go.Proofs.YtdcdhcgfhapbnaaDoor
open Go Go.RowKit Go.Lib Go.Maps

theorem headStep_len (x : Wd) : ∀ (k : Nat) (L : List Wd), ((List.range k).foldl (headStep x) L).length ≤ L.length + k
  | 0, _ => Nat.le_refl _
  | k + 1, L => by
    rw [range_step]
    have h1 := headStep_len x k L
    have h2 := insU_len (x.take (k + 1)) ((List.range k).foldl (headStep x) L)
    unfold headStep at h2 h1 ⊢
    omega

theorem headsS_len (m : List Wd) : (headsS m).length ≤ 1 + tot m := by
  have key : ∀ (m : List Wd) (L : List Wd), (m.foldl headsOf L).length ≤ L.length + tot m := by
    intro m
    induction m with
    | nil => intro L; exact Nat.le_refl _
    | cons x m ih =>
      intro L
      rw [List.foldl_cons, tot_cons]
      have h1 := ih (headsOf L x)
      have h2 := headStep_len x x.length L
      change (headsOf L x).length ≤ _ at h2
      omega
  have := key m [[]]
  simpa [headsS] using this

theorem tot_few {V : List Wd} {k : Nat} (h : ∀ x ∈ V, x.length ≤ k) : tot V ≤ V.length * k := by
  induction V with
  | nil => exact Nat.zero_le _
  | cons x V ih =>
    rw [tot_cons, List.length_cons, Nat.succ_mul]
    have h1 := h x (by simp)
    have h2 := ih (fun y hy => h y (by simp [hy]))
    omega

theorem heads_tail {V : List Wd} {h : Wd} (hh : h ∈ headsS V) (hne : h ≠ []) : h ∈ (headsS V).drop 1 := by
  have hr := headsS_rise V
  have hn : ([] : Wd) ∈ headsS V := mem_headsS.2 (.inl rfl)
  generalize headsS V = H at *
  match H, hr, hn, hh with
  | k :: T, hr, hn, hh =>
    obtain ⟨h1, _⟩ := List.pairwise_cons.1 hr
    have hk : k = [] := by
      rcases List.mem_cons.1 hn with e | e
      · exact e.symm
      · exact absurd (h1 _ e) (lt_nil k)
    rcases List.mem_cons.1 hh with e | e
    · exact absurd (e.trans hk) hne
    · exact e

/-- All that the walk's law needs of what Build has built. -/
structure Built (V : List Wd) (r : Nat × List DSt) : Prop where
  rise : Rise V
  few : V.length ≤ 100
  short : ∀ x ∈ V, x.length ≤ 100
  eq : buildS 201 V [] = r

theorem Built.tidy {V : List Wd} {r : Nat × List DSt} (h : Built V r) : Tidy r.2 ∧ r.1 < r.2.length + 1 ∧ r.2.length ≤ 10001 := by
  obtain ⟨h1, h2, h3⟩ := ready h.rise (fun x hx => by have := h.short x hx; omega) h.eq
  have h4 := tot_few h.short
  have h5 := h.few
  have h6 : V.length * 100 ≤ 100 * 100 := Nat.mul_le_mul_right 100 h5
  exact ⟨h1, h2, by omega⟩

theorem Built.run {V : List Wd} {r : Nat × List DSt} (h : Built V r) (t : Wd) : runS r.2 (r.1 : Int) t = decide (t ∈ V) := by
  have := buildS_run 201 V [] r.2 (fun x hx => by have := h.short x hx; omega) h.rise (by decide) (by rw [h.eq]; exact List.prefix_refl _) t
  rw [h.eq] at this; exact this

theorem Built.live {V : List Wd} {r : Nat × List DSt} (h : Built V r) : ∀ (i : Nat) (e : DEdge), e ∈ (stAt r.2 (i : Int)).2 → ∃ t, runS r.2 e.2 t = true := by
  have h1 := buildS_inv 201 V [] r.2 (fun x hx => by have := h.short x hx; omega) h.rise (by decide) (by rw [h.eq]; exact List.prefix_refl _) ⟨List.Pairwise.nil, by simp⟩
  rw [h.eq] at h1
  intro i e he
  rcases Nat.lt_or_ge i r.2.length with h2 | h2
  · have hs := List.getElem?_eq_getElem h2
    rw [stAt_in hs] at he
    exact ((h1.2 i _ hs).2 e he).2
  · rw [stAt_out (.inr (by omega))] at he
    cases he

theorem Built.offers {V : List Wd} {r : Nat × List DSt} (h : Built V r) (codes : List Int) (mo : Nat) : (walkS r.2 r.1 codes mo).l = V.flatMap (refOff codes mo) := by
  rw [walk_offers h.tidy.1 h.tidy.2.1 h.rise h.run, refOff_all]

theorem Built.steps {V : List Wd} {r : Nat × List DSt} (h : Built V r) (codes : List Int) (mo : Nat) : (walkS r.2 r.1 codes mo).steps ≤ mostC codes mo (headsS V) := by
  refine walk_steps h.tidy.1 h.live h.run codes mo (List.Pairwise.sublist (List.drop_sublist _ _) (headsS_rise V)) (fun x s hx hm => heads_tail ?_ hx)
  refine mem_headsS.2 (.inr ⟨x ++ s, hm, x.length - 1, ?_, ?_⟩)
  · rw [List.length_append]
    have : 1 ≤ x.length := by rcases Nat.eq_zero_or_pos x.length with h0 | h0; exact absurd (List.eq_nil_of_length_eq_zero h0) hx; exact h0
    omega
  · have : 1 ≤ x.length := by rcases Nat.eq_zero_or_pos x.length with h0 | h0; exact absurd (List.eq_nil_of_length_eq_zero h0) hx; exact h0
    rw [show x.length - 1 + 1 = x.length by omega, List.take_left']
    rfl

theorem mostC_le (codes : List Int) (mo : Nat) (H : List Wd) : mostC codes mo H ≤ H.length := by
  unfold mostC
  exact Nat.le_trans (List.length_filter_le _ _) (by rw [List.length_drop]; omega)

theorem Built.bounds {V : List Wd} {r : Nat × List DSt} (h : Built V r) (codes : List Int) (mo : Nat) : (walkS r.2 r.1 codes mo).steps ≤ 1000000 ∧ (walkS r.2 r.1 codes mo).l.length ≤ 1000000 := by
  constructor
  · have h1 := h.steps codes mo
    have h2 := mostC_le codes mo (headsS V)
    have h3 := headsS_len V
    have h4 := tot_few h.short
    have h6 : V.length * 100 ≤ 100 * 100 := Nat.mul_le_mul_right 100 h.few
    omega
  · rw [h.offers]
    have := offers_len codes mo V
    have := h.few
    omega
end Go.Proofs.YtdcdhcgfhapbnaaDoor

namespace Go.Proofs.YtdcdhcgfhapbnaaDoor
open Go Go.RowKit Go.Lib Go.Maps

theorem own_at {w : World} {base : Nat} {v : Value} {l : List (Wd × Nat)} (h : w.ownsRow base 41 2 v l.length (offCells l)) : ∃ A c, v = .slice A l.length c ∧ Sl w 2 A l.length (offCells l) := by
  obtain ⟨A, c, rfl⟩ := own_slice h
  exact ⟨A, c, rfl, Sl.of_own h (fun x hx => by unfold offCells at hx; obtain ⟨p, _, hp⟩ := List.mem_flatMap.1 hx; simp at hp; rcases hp with rfl | rfl <;> rfl)⟩

theorem off_get {l : List (Wd × Nat)} {o : Wd × Nat} : ∀ {i : Nat}, l[i]? = some o → (offCells l)[i * 2]? = some (.string ⟨o.1.toArray⟩) ∧ (offCells l)[i * 2 + 1]? = some (.int .i64 (o.2 : Int)) := by
  induction l with
  | nil => intro i h; simp at h
  | cons a t ih =>
    intro i h
    rcases i with _ | i
    · simp at h; subst h
      simp [offCells]
    · have := ih (i := i) (by simpa using h)
      rw [show (i + 1) * 2 = i * 2 + 1 + 1 by omega]
      simpa [offCells] using this

set_option maxRecDepth 100000 in
set_option maxHeartbeats 2000000 in
theorem same18_walk (l : List (Wd × Nat)) (A B : Option Addr) (n ca cb : Nat) (w : World) (hn : l.length = n) (hb : n ≤ 1000000) (hA : Sl w 2 A n (offCells l)) (hB : Sl w 2 B n (offCells l)) :
    Calls Tryd.prog 14 #[.slice A n ca, .slice B n cb] w fun e w' => e = .returned (.bool true) ∧ w.grownBy w' none := by
  have HA := Lib.hid hA
  have HB := Lib.hid hB
  have HN := Lib.hid hn
  clear hA hB hn
  go_enter Tryd.func14, Tryd.ntmps14
  go_wp2_with fail
  go_loopw [5] (fun iv wr => ∃ i : Nat, i ≤ n ∧ iv = .int .i64 (i : Int) ∧ w.grownBy wr none) (fun iv _ => n - (intOf iv).toNat)
  case atStart => exact ⟨0, Nat.zero_le _, rfl, grownBy_refl _ _⟩
  case round =>
    obtain ⟨i, hi, rfl, hg⟩ := hrel
    rcases Nat.lt_or_ge i n with hlt | hge
    · obtain ⟨o, ho⟩ : ∃ o, l[i]? = some o := ⟨_, List.getElem?_eq_getElem (by rw [HN.out]; exact hlt)⟩
      obtain ⟨g0, g1⟩ := off_get ho
      obtain ⟨qa, oa, eA, hca⟩ := (HA.out.kept hg nofun).2.2 (by omega)
      cases eA
      obtain ⟨qb, ob, eB, hcb⟩ := (HB.out.kept hg nofun).2.2 (by omega)
      cases eB
      have x0 := hca _ _ g0
      have x1 := hca _ _ g1
      have y0 := hcb _ _ g0
      have y1 := hcb _ _ g1
      rw [← Nat.add_assoc] at x1 y1
      have hli : (i : Int) < (n : Int) := by omega
      have HG := Lib.hid hg
      clear hca hcb g0 g1 hg ho
      go_upto_region 6 with (fail)
      go_quiet (fail)
      go_wp2_with fail
      go_roundw
      case rel => exact ⟨i + 1, by omega, by go_num, grownBy_drewN HG.out _⟩
      case measure => first | (simp [intOf]; done) | (simp [intOf]; omega)
    · obtain rfl : i = n := by omega
      go_wp2_with fail
      go_ret
      exact ⟨rfl, hg⟩

end Go.Proofs.YtdcdhcgfhapbnaaDoor

namespace Go.Proofs.YtdcdhcgfhapbnaaDoor
open Go Go.RowKit Go.Lib Go.Maps

end Go.Proofs.YtdcdhcgfhapbnaaDoor

namespace Go.Proofs.YtdcdhcgfhapbnaaDoor
open Go Go.RowKit Go.ChangeShapes Go.WideShapes Go.Deep

section
variable {H : Type} {enc : TypeId × Value → H} {W : World} {held : Bool}

theorem cells_int : Tryd.prog.cellsOf 3 = 1 := by kernel_rfl

theorem ints_open {A : Option Addr} {n c m : Nat} {y : DataW H × List MemPlace} (h : DataW.trod enc Tryd.prog W 0 (fun _ => true) held m 36 [.slice A n c] = some y) :
    ∃ zs : List Int, zs.length = n ∧ n ≤ c ∧ Sl W 1 A n (intCells zs) := by
  obtain ⟨hle, hm, g, hlen, hc, hx⟩ := open_rows Tryd.underlying36 cells_int (by omega) (fun l => ∃ z : Int, l = [.int .i64 z]) (fun m cs y hl h => by obtain ⟨z, e1, _⟩ := DataW.trod_int Tryd.underlying3 h; exact ⟨z, e1⟩) h
  have hs := sl_of_rows hlen hc (Q := fun l => ∃ z : Int, l = [.int .i64 z]) (by rintro l ⟨z, rfl⟩ x hx; simp at hx; subst hx; rfl) hx
  have key : ∀ i, i < n → ∃ z : Int, g[i]? = some (.int .i64 z) := by
    intro i hi
    obtain ⟨l, _, ⟨z, rfl⟩, hj⟩ := hx i hi
    have := hj 0 (by omega)
    rw [Nat.mul_one, Nat.add_zero] at this
    exact ⟨z, by rw [this]; simp⟩
  let f : Value → Int := fun v => match v with | .int _ z => z | _ => 0
  have e : intCells (g.map f) = g := by
    apply List.ext_getElem?
    intro i
    rw [intCells, List.map_map, List.getElem?_map]
    rcases Nat.lt_or_ge i n with hi | hi
    · obtain ⟨z, h2⟩ := key i hi
      rw [h2]; simp [f]
    · rw [List.getElem?_eq_none (by omega)]; rfl
  exact ⟨g.map f, by rw [List.length_map, hlen, Nat.mul_one], hle, by rw [e]; exact hs⟩
end
end Go.Proofs.YtdcdhcgfhapbnaaDoor
