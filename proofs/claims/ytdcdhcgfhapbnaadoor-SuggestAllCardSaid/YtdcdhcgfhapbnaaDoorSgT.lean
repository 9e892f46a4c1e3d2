/-
  suggest.Top: the walk. Conditions: words of at most 1000 bytes, at most 1000 of each kind; unicode/utf8's two tables as they are laid.
-/
import Derived.Test.YtdcdhcgfhapbnaaDoorSgN
import Derived.Test.YtdcdhcgfhapbnaaDoorSgF
import Derived.Test.YtdcdhcgfhapbnaaDoorRunes
import Derived.Test.YtdcdhcgfhapbnaaDoorMost
namespace Go.Proofs.YtdcdhcgfhapbnaaDoor.Sg
open Go Go.RowKit Go.Maps

set_option maxRecDepth 100000 in
theorem near_walk (a b : List Int) (A B : Option Addr) (n m ca cb : Nat) (w : World) (hn : a.length = n) (hm : b.length = m) (hn2 : n ≤ 1000) (hm2 : m ≤ 1000) (hA : Sl w 1 A n (intCells a)) (hB : Sl w 1 B m (intCells b)) :
    Calls Tryd.prog 29 #[.slice A n ca, .slice B m cb, .int .i64 2] w fun e w' => e = .returned (.tuple #[.int .i64 (if farC a b ≤ 2 then (farC a b : Int) else 0), .bool (decide (farC a b ≤ 2))]) ∧ w.grownBy w' none := by
  have HF := Lib.hid (dfar_walk a b A B n m ca cb w hn hm hn2 hm2 hA hB)
  clear hA hB hn hm
  generalize farC a b = d at *
  by_cases h : d ≤ 2
  · rw [if_pos h, decide_eq_true h]
    have h2 : ¬ (2 : Int) < (d : Int) := by omega
    clear h
    go_enter Tryd.func29, Tryd.ntmps29
    go_wp2_with fail
    refine HF.out.mono ?_
    rintro e w2 ⟨rfl, hg⟩
    have HG := Lib.hid hg
    clear hg HF
    go_wp2_with fail
    go_ret2
    exact ⟨rfl, HG.out⟩
  · rw [if_neg h, decide_eq_false h]
    have h2 : (2 : Int) < (d : Int) := by omega
    clear h
    go_enter Tryd.func29, Tryd.ntmps29
    go_wp2_with fail
    refine HF.out.mono ?_
    rintro e w2 ⟨rfl, hg⟩
    have HG := Lib.hid hg
    clear hg HF
    go_wp2_with fail
    go_ret2
    exact ⟨rfl, HG.out⟩
end Go.Proofs.YtdcdhcgfhapbnaaDoor.Sg

namespace Go.Proofs.YtdcdhcgfhapbnaaDoor.Sg
open Go Go.RowKit Go.Maps

/-- The offer of one of the words besides. -/
def offP (cs : List Int) (t : Wd) : List Of :=
  match codesB t with
  | some ct => if farC ct cs ≤ 2 then [(t, farC ct cs)] else []
  | none => []

def allP (V more : List Wd) (cs : List Int) : List Of := V.flatMap (refOff cs 2) ++ more.flatMap (offP cs)
def topN (K : Int) : Nat := (max 0 (min K 10)).toNat
def topL (V more : List Wd) (cs : List Int) (K : Int) : List Of := (onceO (sortO (keepO (allP V more cs)))).take (topN K)

def TopRes (V more : List Wd) (word : Wd) (K : Int) (w : World) (e : Ending) (w' : World) : Prop :=
  w.grownBy w' none ∧ (((codesB word = none ∨ word = []) ∧ e = .returned (.tuple #[.slice none 0 0, .int .i64 1])) ∨
    (∃ cs, codesB word = some cs ∧ word ≠ [] ∧ 24 < cs.length ∧ e = .returned (.tuple #[.slice none 0 0, .int .i64 7])) ∨
    (∃ cs A c, codesB word = some cs ∧ word ≠ [] ∧ cs.length ≤ 24 ∧ e = .returned (.tuple #[.slice A (topL V more cs K).length c, .int .i64 0]) ∧ Offs w' w.heap.size (.slice A (topL V more cs K).length c) (topL V more cs K)))

theorem rowO_off : ∀ l : List Of, rowO l = offCells l
  | [] => rfl
  | s :: l => by
    show _ :: _ :: rowO l = _
    rw [rowO_off l]
    rfl

theorem offs_take {w : World} {base : Nat} {A : Option Addr} {c R : Nat} {l : List Of} (h : Offs w base (.slice A l.length c) l) (hR : R ≤ l.length) : Offs w base (.slice A R c) (l.take R) := by
  have hl : (l.take R).length = R := by rw [List.length_take]; omega
  rcases Nat.eq_zero_or_pos l.length with h0 | h0
  · have hl0 : l = [] := List.eq_nil_of_length_eq_zero h0
    subst hl0
    have : R = 0 := by simpa using hR
    subst this
    exact h
  · obtain ⟨g, rfl, _⟩ := own_row h h0
    unfold Offs
    rw [hl, ← rowO_take]
    exact own_back h hR

theorem onceO_len : ∀ l : List Of, (onceO l).length ≤ l.length
  | [] => Nat.le_refl _
  | [x] => Nat.le_refl _
  | x :: y :: l => by
    have ih := onceO_len (y :: l)
    rw [once_cons]
    split
    · rw [List.length_cons (a := x)]; omega
    · rw [List.length_cons, List.length_cons (a := x)]; omega

theorem topL_len (V more : List Wd) (cs : List Int) (K : Int) {l : List Of} (h : onceO (sortO (keepO (allP V more cs))) = l) : topL V more cs K = l.take (min l.length (topN K)) ∧ (topL V more cs K).length = min l.length (topN K) := by
  unfold topL
  rw [h]
  constructor
  · rcases Nat.le_total l.length (topN K) with h1 | h1
    · rw [Nat.min_eq_left h1, List.take_of_length_le h1, List.take_of_length_le (Nat.le_refl _)]
    · rw [Nat.min_eq_right h1]
  · rw [List.length_take, Nat.min_comm]

/-- The words besides, one by one. -/
structure MoreRel (more : List Wd) (cs : List Int) (L0 : List Of) (w : World) (lv jv : Value) (wr : World) : Prop where
  out : ∃ j : Nat, j ≤ more.length ∧ jv = .int .i64 (j : Int) ∧ Offs wr w.heap.size lv (L0 ++ (more.take j).flatMap (offP cs)) ∧ w.grownBy wr none

theorem more_len (cs : List Int) (more : List Wd) : (more.flatMap (offP cs)).length ≤ more.length := by
  induction more with
  | nil => exact Nat.le_refl _
  | cons t l ih =>
    rw [List.flatMap_cons, List.length_append, List.length_cons]
    have : (offP cs t).length ≤ 1 := by
      unfold offP
      split
      · split <;> simp
      · simp
    omega

theorem more_take {more : List Wd} {j : Nat} (hj : j < more.length) (cs : List Int) : (more.take (j + 1)).flatMap (offP cs) = (more.take j).flatMap (offP cs) ++ offP cs more[j] := by
  rw [List.take_succ_eq_append_getElem hj, List.flatMap_append]
  simp

set_option maxRecDepth 100000 in
set_option maxHeartbeats 8000000 in
theorem top_walk (aV : Value) (V more : List Wd) (word : Wd) (K : Int) (MA : Option Addr) (mn mc : Nat) (w : World)
    (hWalk : ∀ cs, codesB word = some cs → cs.length ≤ 24 → ∀ (CA : Option Addr) (cc : Nat) (wx : World), w.grownBy wx none → Sl wx 1 CA cs.length (intCells cs) → Calls Tryd.prog 28 #[aV, .slice CA cs.length cc, .int .i64 2] wx (OffersRes (V.flatMap (refOff cs 2)) wx))
    (hV : ∀ cs, (V.flatMap (refOff cs 2)).length ≤ 1000) (hmn : more.length = mn) (hmn2 : mn ≤ 1000) (hM : Sl w 1 MA mn (strCells more)) (hml : ∀ t ∈ more, t.length ≤ 1000) (hwl : word.length ≤ 1000)
    (hT : Lib.Utf8Tabs 0 1 w) :
    Calls Tryd.prog 11 #[aV, .slice MA mn mc, .string ⟨word.toArray⟩, .int .i64 K] w (TopRes V more word K w) := by
  obtain ⟨i0, hi, hz0, hz1, hz2⟩ := info_parts of_info
  have hcd := rcodes_walk word w (by omega) hT
  have HW := Lib.hid hWalk
  have HV := Lib.hid hV
  have HMN := Lib.hid hmn
  have HM := Lib.hid hM
  have HML := Lib.hid hml
  have HT := Lib.hid hT
  have HCD := Lib.hid hcd
  clear hWalk hV hmn hM hml hT hcd
  go_enter Tryd.func11, Tryd.ntmps11
  go_wp2_with fail
  refine HCD.out.mono ?_
  rintro e w1 ⟨hg1, ⟨cs, CA, cc, hcs, rfl, hown⟩ | ⟨hcs, rfl⟩⟩
  · by_cases hwe : word = []
    · have HG := Lib.hid hg1
      have hwb : (List.isEmpty word) = true := by rw [hwe]; rfl
      have HWE := Lib.hid hwe
      clear hg1 hcs hown hwe
      go_wp2_with fail
      go_ret2
      exact ⟨HG.out, .inl ⟨.inr HWE.out, rfl⟩⟩
    · have hwb : (List.isEmpty word) = false := by
        cases word with
        | nil => exact absurd rfl hwe
        | cons a b => rfl
      have HWE := Lib.hid hwe
      have HG1 := Lib.hid hg1
      have HCS := Lib.hid hcs
      have HCL := Lib.hid (Sl.of_own hown (fun x hx => by obtain ⟨y, _, rfl⟩ := List.mem_map.1 hx; rfl))
      clear hg1 hcs hown hwe
      by_cases h24 : 24 < cs.length
      · have hb : (24 : Int) < (cs.length : Int) := by omega
        have H24 := Lib.hid h24
        clear h24
        go_wp2_with fail
        go_ret2
        exact ⟨HG1.out, .inr (.inl ⟨cs, HCS.out, HWE.out, H24.out, rfl⟩)⟩
      · have hb : ¬ (24 : Int) < (cs.length : Int) := by omega
        have h24' : cs.length ≤ 24 := by omega
        clear h24
        go_upto_region 7 with (fail)
        have hA2 := heap_new w1 (Obj.cells #[.func (.func 24) #[] #[]] 62)
        have hg2 := grownBy_alloc HG1.out (Obj.cells #[.func (.func 24) #[] #[]] 62)
        have hcl2 := HCL.out.kept (grownBy_alloc (grownBy_refl w1 none) (Obj.cells #[.func (.func 24) #[] #[]] 62)) nofun
        generalize hw2 : w1.alloc (Obj.cells #[.func (.func 24) #[] #[]] 62) = w2 at *
        generalize hob : w1.heap.size = ob at hA2 ⊢
        have hwk := HW.out cs HCS.out h24' CA cc w2 hg2 hcl2
        have HWK := Lib.hid hwk
        have HA2 := Lib.hid hA2
        have HG2 := Lib.hid hg2
        have HCL2 := Lib.hid hcl2
        clear hA2 hg2 hcl2 hwk hw2 hob
        go_wp2_with fail
        refine HWK.out.mono ?_
        rintro e w3 ⟨lv, rfl, hown, hg3⟩
        have hL0 := HV.out cs
        obtain ⟨L0, hL0e⟩ : ∃ L0, V.flatMap (refOff cs 2) = L0 := ⟨_, rfl⟩
        rw [hL0e] at hown hL0
        rw [← rowO_off] at hown
        have HL0 := Lib.hid hL0e
        have HG3 := Lib.hid hg3
        have HOF := Lib.hid hown
        clear hown hg3 hL0e HWK HCL
        go_wp2_with fail
        go_loopw [13, 42] (fun lv jv wr => MoreRel more cs L0 w2 lv jv wr) (fun _ jv _ => mn - (RowKit.intOf jv).toNat)
        case atStart => exact ⟨0, Nat.zero_le _, rfl, by rw [List.take_zero, List.flatMap_nil, List.append_nil]; exact HOF.out, HG3.out⟩
        case round =>
          obtain ⟨j, hj, rfl, hof, hgr⟩ := hrel.out
          rw [HMN.out] at hj
          have hlen : (L0 ++ (more.take j).flatMap (offP cs)).length ≤ 2000 := by
            have h5 := more_len cs (more.take j)
            rw [List.length_append]
            rw [List.length_take] at h5
            omega
          have hgw := grownBy_trans HG2.out hgr nofun
          obtain ⟨LL, hLL⟩ : ∃ LL, L0 ++ (more.take j).flatMap (offP cs) = LL := ⟨_, rfl⟩
          rw [hLL] at hof hlen
          obtain ⟨lA, lc, rfl, _⟩ := offs_slice hof
          obtain ⟨N, hN⟩ : ∃ N, LL.length = N := ⟨_, rfl⟩
          have hof2 : wr.ownsRow w2.heap.size 41 2 (.slice lA N lc) N (rowO LL) := by
            have h5 := hof
            unfold Offs at h5
            rw [hN] at h5
            exact h5
          rw [hN] at hlen ⊢
          have HLL := Lib.hid (And.intro hLL hN)
          clear hof hLL hN
          rcases Nat.lt_or_ge j mn with hlt | hge
          · have hltI : (j : Int) < (mn : Int) := Int.ofNat_lt.2 hlt
            have hjm : j < more.length := by rw [HMN.out]; exact hlt
            obtain ⟨p1, o1, rfl, hc1⟩ := (HM.out.kept hgw nofun).2.2 (by omega)
            have x0 := hc1 j (.string ⟨more[j].toArray⟩) (by rw [strCells, List.getElem?_map, List.getElem?_eq_getElem hjm]; rfl)
            have hmt := more_take hjm cs
            have hcd := rcodes_walk more[j] wr (by have := HML.out _ (List.getElem_mem hjm); omega) (tabs_kept HT.out hgw)
            have hml := HML.out _ (List.getElem_mem hjm)
            generalize more[j] = tw at *
            have HMT := Lib.hid hmt
            have HCT := Lib.hid hcd
            have HML2 := Lib.hid hml
            have HOFR := Lib.hid hof2
            have HGR := Lib.hid hgr
            have hwj : IntKind.i64.wrap ((j : Int) + 1) = (j : Int) + 1 := by rw [IntKind.wrap_i64]; omega
            clear hc1 hjm hmt hcd hml hof2 hgr hgw
            go_wp2_with fail
            refine HCT.out.mono ?_
            rintro e w5 ⟨hg5, ⟨ct, CA2, cc2, hct, rfl, hown5⟩ | ⟨hct, rfl⟩⟩
            · have hctl := codesB_len2 tw.length tw ct (Nat.le_refl _) hct
              have hcl5 : Sl w5 1 CA2 ct.length (intCells ct) := Sl.of_own hown5 (fun x hx => by obtain ⟨y, _, rfl⟩ := List.mem_map.1 hx; rfl)
              have hnr := near_walk ct cs CA2 CA ct.length cs.length cc2 cc w5 rfl rfl (by have := HML2.out; omega) (by omega) hcl5 (HCL2.out.kept (grownBy_trans HGR.out hg5 nofun) nofun)
              have HG5 := Lib.hid (grownBy_trans HGR.out hg5 nofun)
              have HO5 := Lib.hid (ownsRow_kept HOFR.out hg5 (own_none _))
              have hop : offP cs tw = if farC ct cs ≤ 2 then [(tw, farC ct cs)] else [] := by unfold offP; rw [hct]
              generalize farC ct cs = d at *
              have HOP := Lib.hid hop
              clear hg5 hct x0 hown5 hcl5 hctl hop
              by_cases hd : d ≤ 2
              · rw [if_pos hd, decide_eq_true hd] at hnr
                have HNR := Lib.hid hnr
                have HD := Lib.hid hd
                clear hnr hd
                go_wp2_with fail
                refine HNR.out.mono ?_
                rintro e w6 ⟨rfl, hg6⟩
                have HG6 := Lib.hid (grownBy_trans HG5.out hg6 nofun)
                have ho6 := ownsRow_kept HO5.out hg6 (own_none _)
                have hX := grownBy_alloc (grownBy_refl w6 none) (ofO (tw, d))
                have hsl9 := Sl.of_own (World.ownsRow_lit (base := 0) (size := 2) (e := 41) w6 #[.string ⟨tw.toArray⟩, .int .i64 (d : Int)] 1 (Nat.zero_le _) (by decide) rfl) (rowO_one [(tw, d)])
                have HSL9 := Lib.hid hsl9
                have HO9 := Lib.hid (ownsRow_kept ho6 hX (own_none _))
                have HG9 := Lib.hid (grownBy_trans HG6.out hX nofun)
                have hsz := HG6.out.size
                clear hg6 ho6 hX hsl9
                go_wp2_with (at_builtin; refine wpList_append_sl _ rfl (.tmp 61) (.tmp 65) 29 rfl w2.heap.size 41 i0 _ 2 24 Tryd.underlying29 hi hz0 hz1 hz2 rfl (by decide) (.slice lA N lc) N _ rfl HO9.out (some ⟨w6.heap.size, 0, none⟩) 1 1 _ rfl HSL9.out (by unfold maxLen; omega) (by omega) (by simp; omega) ?_)
                rintro v' w10 ⟨hs10, hg10, _⟩
                have hg11 : w2.grownBy w10 none := grownBy_trans HG9.out hg10 (fun i e => .inr ((HO9.out.lt i e).1))
                have hs11 : Offs w10 w2.heap.size v' (LL ++ [(tw, d)]) := by
                  unfold Offs
                  rw [List.length_append, rowO_append, HLL.out.2]
                  exact hs10
                have HS11 := Lib.hid hs11
                have HG11 := Lib.hid hg11
                clear hs10 hg10 hs11 hg11
                go_wp2_with fail
                go_roundw
                case rel => exact ⟨j + 1, by rw [HMN.out]; omega, by simp, by rw [HMT.out, HOP.out, if_pos HD.out, ← List.append_assoc, HLL.out.1]; exact HS11.out, HG11.out⟩
                case measure => exact meas hlt
              · rw [if_neg hd, decide_eq_false hd] at hnr
                have HNR := Lib.hid hnr
                have HD := Lib.hid hd
                clear hnr hd
                go_wp2_with fail
                refine HNR.out.mono ?_
                rintro e w6 ⟨rfl, hg6⟩
                have HG6 := Lib.hid (grownBy_trans HG5.out hg6 nofun)
                have HO6 := Lib.hid (ownsRow_kept HO5.out hg6 (own_none _))
                clear hg6
                go_wp2_with fail
                go_roundw
                case rel => exact ⟨j + 1, by rw [HMN.out]; omega, by simp, by rw [HMT.out, HOP.out, if_neg HD.out, List.append_nil, HLL.out.1]; unfold Offs; rw [HLL.out.2]; exact HO6.out, HG6.out⟩
                case measure => exact meas hlt
            · have hnr := near_walk [] cs none CA 0 cs.length 0 cc w5 rfl rfl (by omega) (by omega) (Sl.nil _ _ _) (HCL2.out.kept (grownBy_trans HGR.out hg5 nofun) nofun)
              have HNR := Lib.hid hnr
              have HG5 := Lib.hid (grownBy_trans HGR.out hg5 nofun)
              have HO5 := Lib.hid (ownsRow_kept HOFR.out hg5 (own_none _))
              have HOP := Lib.hid (show offP cs tw = [] by unfold offP; rw [hct])
              clear hnr hg5 hct x0
              go_wp2_with fail
              refine HNR.out.mono ?_
              rintro e w6 ⟨rfl, hg6⟩
              have HG6 := Lib.hid (grownBy_trans HG5.out hg6 nofun)
              have HO6 := Lib.hid (ownsRow_kept HO5.out hg6 (own_none _))
              clear hg6
              go_wp2_with fail
              go_roundw
              case rel => exact ⟨j + 1, by rw [HMN.out]; omega, by simp, by rw [HMT.out, HOP.out, List.append_nil, HLL.out.1]; unfold Offs; rw [HLL.out.2]; exact HO6.out, HG6.out⟩
              case measure => exact meas hlt
          · have hjm : more.take j = more := List.take_of_length_le (by rw [HMN.out]; exact hge)
            have hb2 : ¬ (j : Int) < (mn : Int) := by omega
            have hLL2 : allP V more cs = LL := by
              rw [← HLL.out.1, hjm, ← HL0.out]
              rfl
            have hA4 := grownBy_heap hgr HA2.out nofun
            have hdel := delete_walk LL wr (by rw [HLL.out.2]; omega) (by unfold Offs; rw [HLL.out.2]; exact hof2) hgr.size
            have HDEL := Lib.hid hdel
            have HGR := Lib.hid hgr
            have HA4 := Lib.hid hA4
            have HLL2 := Lib.hid hLL2
            have HK := Lib.hid (show (keepO LL).length ≤ N by rw [← HLL.out.2]; exact List.length_filter_le ..)
            clear hof2 hgr hgw hjm hLL2 hA4 hdel
            go_wp2_with fail
            refine HDEL.out.mono ?_
            rintro e w6 ⟨A6, c6, rfl, ho6, hg6, hb6⟩
            have hg6' : w2.grownBy w6 none := grownBy_trans HGR.out hg6 (fun i e => .inr (by
              have h5 := (ho6.lt i (by rw [hb6]; exact e)).1
              exact h5))
            have HA6 := Lib.hid (grownBy_heap hg6' HA2.out nofun)
            have a0 := cell_of_heap HA6.out 0
            have hkl : (keepO LL).length ≤ 2000 := by have := HK.out; omega
            have hso := sortO_walk w6 ho6 (by omega)
            have HSO := Lib.hid hso
            have HG6 := Lib.hid hg6'
            have hge6 : ∀ i, (Value.slice A6 (keepO LL).length c6).ownBlock = some i → w2.heap.size ≤ i := fun i e => (ho6.lt i e).1
            have HGE6 := Lib.hid hge6
            have HKL := Lib.hid hkl
            clear ho6 hg6 hb6 hg6' hso hge6 hkl HDEL
            go_wp2_with fail
            refine HSO.out.mono ?_
            rintro e w7 ⟨rfl, ho7, hg7⟩
            have HG7 := Lib.hid (grownBy_trans HG6.out hg7 (fun i e => .inr (HGE6.out i e)))
            have hco := compact_walk (sortO (keepO LL)) w7 (by rw [sortO_length]; have := HKL.out; omega) ho7
            have HCO := Lib.hid hco
            clear ho7 hg7 hco a0
            go_wp2_with fail
            refine HCO.out.mono ?_
            rintro e w8 ⟨A8, c8, rfl, ho8, hg8⟩
            have HG8 := Lib.hid (grownBy_trans HG7.out hg8 (fun i e => .inr (HGE6.out i e)))
            obtain ⟨hT1, hT2⟩ := topL_len V more cs K (l := onceO (sortO (keepO LL))) (by rw [HLL2.out])
            obtain ⟨l8, hl8⟩ : ∃ l8, onceO (sortO (keepO LL)) = l8 := ⟨_, rfl⟩
            rw [hl8] at ho8 hT1 hT2
            rw [hl8]
            obtain ⟨M, hM8⟩ : ∃ M, l8.length = M := ⟨_, rfl⟩
            obtain ⟨R, hR⟩ : ∃ R, min M (topN K) = R := ⟨_, rfl⟩
            have hof := offs_take (R := R) ho8 (by omega)
            rw [hM8, hR] at hT1 hT2
            rw [hM8] at ho8 ⊢
            have hMb : M ≤ 2000 := by
              have h5 := HKL.out
              have h6 := onceO_len (sortO (keepO LL))
              rw [sortO_length, hl8, hM8] at h6
              omega
            have m1 : ∀ (ts : Array TypeId) (ty : TypeId) (w : World), (Builtin.min_ ts ty #[.int .i64 K, .int .i64 10]).run Tryd.prog w = .ok (.int .i64 (min K 10)) w := by
              intro ts ty w
              rw [run_min_int2]; congr 2; split <;> omega
            have m2 : ∀ (ts : Array TypeId) (ty : TypeId) (w : World), (Builtin.max_ ts ty #[.int .i64 0, .int .i64 (min K 10)]).run Tryd.prog w = .ok (.int .i64 (topN K : Int)) w := by
              intro ts ty w
              rw [run_max_int2]; congr 2; unfold topN; split <;> omega
            have m3 : ∀ (ts : Array TypeId) (ty : TypeId) (w : World), (Builtin.min_ ts ty #[.int .i64 (M : Int), .int .i64 (topN K : Int)]).run Tryd.prog w = .ok (.int .i64 (R : Int)) w := by
              intro ts ty w
              rw [run_min_int2]; congr 2; rw [← hR]; split <;> omega
            generalize topN K = TN at *
            generalize min K 10 = K10 at *
            have hRM : R ≤ M := by omega
            obtain ⟨_, _, _, hM9, hcap⟩ : ∃ (x : Nat) (y : Nat) (z : Nat), M ≤ c8 ∧ True := ⟨0, 0, 0, by
              rcases ho8.2 with ⟨e, h0⟩ | ⟨q, cap, cur, e, _, _, hc, _⟩
              · omega
              · cases e; exact hc, trivial⟩
            have hRc : (R : Int) ≤ (c8 : Int) := by omega
            have HF := Lib.hid (And.intro hT1 (And.intro hT2 (hof)))
            have HGW := Lib.hid (grownBy_trans HG2.out HG8.out nofun)
            clear ho8 hg8 hof hT1 hT2 hR hM8 hl8 HCO HSO
            go_wp2_with fail
            go_ret2
            refine ⟨HGW.out, .inr (.inr ⟨cs, A8, c8, HCS.out, HWE.out, h24', by rw [HF.out.2.1]; rfl, ?_⟩)⟩
            rw [HF.out.2.1]
            unfold Offs
            rw [HF.out.2.1, HF.out.1]
            have h5 := HF.out.2.2
            unfold Offs at h5
            rw [show (l8.take R).length = R by rw [← HF.out.1]; exact HF.out.2.1] at h5
            exact ownsRow_base h5 HG2.out.size
  · have HG := Lib.hid hg1
    have HCS := Lib.hid hcs
    clear hg1 hcs
    go_wp2_with fail
    go_ret2
    exact ⟨HG.out, .inl ⟨.inl HCS.out, rfl⟩⟩
end Go.Proofs.YtdcdhcgfhapbnaaDoor.Sg
