/-
  ref18.Most: how many bytes may be followed: the walk: at least as many as beginnings have hope. Conditions: at most 100 words of at most 100 bytes, at most 900 codes.
-/
import Derived.Test.YtdcdhcgfhapbnaaDoorRefAll
import Derived.Test.YtdcdhcgfhapbnaaDoorFar
import Derived.Test.YtdcdhcgfhapbnaaDoorWalkW
import Derived.Deep.RegionLaw
import Derived.Test.YtdcdhcgfhapbnaaDoorHeads
import Derived.StillTailTactics
namespace Go.Proofs.YtdcdhcgfhapbnaaDoor
open Go Go.RowKit Go.Lib Go.Maps

/-- What one word brings. -/
def refOff (codes : List Int) (most : Nat) (t : Wd) : List (Wd × Nat) := ((scoreS codes most (start0 codes) t).map fun d => (t, d)).toList

theorem refOff_all (codes : List Int) (most : Nat) (W : List Wd) : W.flatMap (refOff codes most) = W.filterMap fun t => (scoreS codes most (start0 codes) t).map fun d => (t, d) := by
  induction W with
  | nil => rfl
  | cons t W ih =>
    rw [List.flatMap_cons, ih]
    unfold refOff
    cases h : (scoreS codes most (start0 codes) t).map fun d => (t, d) with
    | none => simp only [List.filterMap_cons, h]; rfl
    | some x => simp only [List.filterMap_cons, h]; rfl

theorem refOff_none {codes : List Int} {most : Nat} {t : Wd} (h : codesB t = none) : refOff codes most t = [] := by
  unfold refOff scoreS; rw [h]; rfl

theorem refOff_far {codes : List Int} {most : Nat} {t : Wd} {cs : List Int} (h : codesB t = some cs) (hf : most < farC codes cs) : refOff codes most t = [] := by
  unfold refOff scoreS; rw [h]
  show ((if farC codes cs ≤ most then some (farC codes cs) else none).map fun d => (t, d)).toList = []
  rw [if_neg (by omega)]; rfl

theorem refOff_near {codes : List Int} {most : Nat} {t : Wd} {cs : List Int} (h : codesB t = some cs) (hf : farC codes cs ≤ most) : refOff codes most t = [(t, farC codes cs)] := by
  unfold refOff scoreS; rw [h]
  show ((if farC codes cs ≤ most then some (farC codes cs) else none).map fun d => (t, d)).toList = _
  rw [if_pos hf]; rfl

theorem codesF_len : ∀ (f : Nat) (t : Wd) (cs : List Int), codesF f t = some cs → cs.length ≤ t.length
  | _, [], cs, h => by
    have : cs = [] := by unfold codesF at h; cases h; rfl
    subst this; simp
  | 0, _ :: _, _, h => by cases h
  | f + 1, b :: t, cs, h => by
    unfold codesF at h
    split at h
    · cases h
    · cases hc : codesF f ((b :: t).drop (decB (b :: t)).2) with
      | none => rw [hc] at h; cases h
      | some cs' =>
        rw [hc] at h; cases h
        have h1 := codesF_len f _ cs' hc
        have h2 := (unit_len (s := b :: t) (by simp)).1
        rw [List.length_drop] at h1
        simp only [List.length_cons] at h1 ⊢
        omega

theorem codesB_len {t : Wd} {cs : List Int} (h : codesB t = some cs) : cs.length ≤ t.length := codesF_len _ _ _ h

theorem offers_len (codes : List Int) (most : Nat) : ∀ W : List Wd, (W.flatMap (refOff codes most)).length ≤ W.length
  | [] => Nat.le_refl _
  | t :: W => by
    rw [List.flatMap_cons, List.length_append, List.length_cons]
    have h1 := offers_len codes most W
    have h2 : (refOff codes most t).length ≤ 1 := by unfold refOff; cases (scoreS codes most (start0 codes) t).map fun d => (t, d) <;> simp
    omega

set_option maxRecDepth 100000 in
set_option maxHeartbeats 4000000 in
theorem refwalk_walk (W : List Wd) (A C : Option Addr) (n nc ca cc : Nat) (codes : List Int) (most : Int) (w : World) (hn : W.length = n) (hn2 : n ≤ 1000) (hW : ∀ t ∈ W, t.length ≤ 1000) (hA : Sl w 1 A n (strCells W)) (hc : codes.length = nc) (hc2 : nc ≤ 1000) (hC : Sl w 1 C nc (intCells codes)) :
    Calls Tryd.prog 36 #[.slice A n ca, .slice C nc cc, .int .i64 most] w (OffersRes (W.flatMap (refOff codes (mostS most))) w) := by
  obtain ⟨i0, hi, hz0, hz1, hz2⟩ := info_parts offer_info
  have hmax : ∀ (ts : Array TypeId) (t : TypeId) (w : World), (Builtin.max_ ts t #[.int .i64 most, .int .i64 0]).run Tryd.prog w = .ok (.int .i64 (max most 0)) w := by
    intro ts t w
    rw [run_max_int2]; congr 2; split <;> omega
  have hmin : ∀ (ts : Array TypeId) (t : TypeId) (w : World), (Builtin.min_ ts t #[.int .i64 (max most 0), .int .i64 3]).run Tryd.prog w = .ok (.int .i64 (mostS most : Int)) w := by
    intro ts t w
    rw [run_min_int2]; congr 2; unfold mostS; split <;> omega
  have hm3 : mostS most ≤ 3 := by unfold mostS; omega
  generalize mostS most = mo at *
  have HA := Lib.hid hA
  have HC := Lib.hid hC
  have HN := Lib.hid hn
  have HCL := Lib.hid hc
  have HW := Lib.hid hW
  clear hA hC hn hc hW
  go_enter Tryd.func36, Tryd.ntmps36
  go_wp2_with fail
  clear hmax hmin
  go_loopw [7, 8] (fun mv iv wr => ∃ (j : Nat), j ≤ n ∧ iv = .int .i64 (j : Int) ∧ wr.ownsRow w.heap.size 41 2 mv ((W.take j).flatMap (refOff codes mo)).length (offCells ((W.take j).flatMap (refOff codes mo))) ∧ w.grownBy wr none) (fun _ iv _ => n - (intOf iv).toNat)
  case atStart => exact ⟨0, Nat.zero_le _, rfl, World.ownsRow_nil _ _ _ _, grownBy_refl _ _⟩
  case round =>
    obtain ⟨j, hj, rfl, hown, hg⟩ := hrel
    rcases Nat.lt_or_ge j n with hlt | hge
    · obtain ⟨t, ht⟩ : ∃ t, W[j]? = some t := ⟨_, List.getElem?_eq_getElem (by rw [HN.out]; exact hlt)⟩
      obtain ⟨qq, oo, eA, hcells⟩ := (HA.out.kept hg nofun).2.2 (by omega)
      cases eA
      have hct := hcells j (.string ⟨t.toArray⟩) (by unfold strCells; rw [List.getElem?_map, ht]; rfl)
      have hlti : (j : Int) < (n : Int) := by omega
      have htl := HW.out t (List.mem_of_getElem? ht)
      have hnext : (W.take (j + 1)).flatMap (refOff codes mo) = (W.take j).flatMap (refOff codes mo) ++ refOff codes mo t := by
        rw [List.take_add_one, ht, Option.toList_some, List.flatMap_append]; simp
      have hol := offers_len codes mo (W.take j)
      rw [List.length_take] at hol
      obtain ⟨L, hL⟩ : ∃ L, (W.take j).flatMap (refOff codes mo) = L := ⟨_, rfl⟩
      rw [hL] at hown hnext hol
      have HNX := Lib.hid hnext
      have HTT := Lib.hid ht
      have HO := Lib.hid hown
      have HG := Lib.hid hg
      clear hcells hnext hown hg hL ht
      go_wp2_with fail
      refine (codes_walk t wr (by omega)).mono ?_
      rintro e w1 ⟨hg1, hres⟩
      have HG1 := Lib.hid hg1
      have HGS := Lib.hid (grownBy_trans HG.out hg1 nofun)
      clear hg1 hct
      rcases hres with ⟨cs, B, cb, hcs, rfl, hownc⟩ | ⟨hcs, rfl⟩
      · have hcl := codesB_len hcs
        obtain ⟨nn, hnn⟩ : ∃ nn, cs.length = nn := ⟨_, rfl⟩
        rw [hnn] at hownc hcl ⊢
        have HNN := Lib.hid hnn
        have HCS := Lib.hid hcs
        have HSC := Lib.hid (Sl.of_own hownc (fun x hx => by obtain ⟨d, _, rfl⟩ := List.mem_map.1 hx; rfl))
        clear hnn hcs hownc
        rcases Nat.lt_or_ge (nc + mo) nn with hbig | hbig
        · have hz : refOff codes mo t = [] := refOff_far HCS.out (by have := far_ge codes cs; rw [HNN.out, HCL.out] at this; omega)
          have HZ := Lib.hid hz
          have hb1 : (nc : Int) + (mo : Int) < (nn : Int) := by omega
          clear hz
          go_wp2_with fail
          go_roundw
          case rel => exact ⟨j + 1, by omega, by go_num, by rw [HNX.out, HZ.out, List.append_nil]; exact ownsRow_kept HO.out HG1.out (own_none _), HGS.out⟩
          case measure => first | (simp [intOf]; done) | (simp [intOf]; omega)
        · have hb1 : (nn : Int) ≤ (nc : Int) + (mo : Int) := by omega
          rcases Nat.lt_or_ge (nn + mo) nc with hsm | hsm
          · have hz : refOff codes mo t = [] := refOff_far HCS.out (by have := far_ge codes cs; rw [HNN.out, HCL.out] at this; omega)
            have HZ := Lib.hid hz
            have hb2 : (nn : Int) + (mo : Int) < (nc : Int) := by omega
            clear hz
            go_wp2_with fail
            go_roundw
            case rel => exact ⟨j + 1, by omega, by go_num, by rw [HNX.out, HZ.out, List.append_nil]; exact ownsRow_kept HO.out HG1.out (own_none _), HGS.out⟩
            case measure => first | (simp [intOf]; done) | (simp [intOf]; omega)
          · have hb2 : (nc : Int) ≤ (nn : Int) + (mo : Int) := by omega
            go_wp2_with fail
            refine (far_walk codes cs C B nc nn cc cb w1 HCL.out HNN.out hc2 (by omega) (HC.out.kept HGS.out nofun) HSC.out).mono ?_
            rintro e w2 ⟨rfl, hg2⟩
            have HG2 := Lib.hid (grownBy_trans HG1.out hg2 nofun)
            have hfe : farC codes cs ≤ nc + nn := by
              have := farD_le (a := codes) (b := cs) (i := codes.length) (k := cs.length) (Nat.le_refl _) (Nat.le_refl _)
              rw [farD_far, HCL.out, HNN.out] at this; exact this
            obtain ⟨d, hd⟩ : ∃ d, farC codes cs = d := ⟨_, rfl⟩
            rw [hd] at hfe ⊢
            have HD := Lib.hid hd
            clear hd hg2
            rcases Nat.lt_or_ge mo d with hfar | hnear
            · have hz : refOff codes mo t = [] := refOff_far HCS.out (by rw [HD.out]; exact hfar)
              have HZ := Lib.hid hz
              have hb3 : (mo : Int) < (d : Int) := by omega
              clear hz
              go_wp2_with fail
              go_roundw
              case rel => exact ⟨j + 1, by omega, by go_num, by rw [HNX.out, HZ.out, List.append_nil]; exact ownsRow_kept HO.out HG2.out (own_none _), grownBy_trans HG.out HG2.out nofun⟩
              case measure => first | (simp [intOf]; done) | (simp [intOf]; omega)
            · have hz : refOff codes mo t = [(t, d)] := by rw [← HD.out]; exact refOff_near HCS.out (by rw [HD.out]; exact hnear)
              have HZ := Lib.hid hz
              have hb3 : (d : Int) ≤ (mo : Int) := by omega
              obtain ⟨qq', oo', eA', hcells⟩ := (HA.out.kept (grownBy_trans HG.out HG2.out nofun) nofun).2.2 (by omega)
              cases eA'
              have hct := hcells j (.string ⟨t.toArray⟩) (by unfold strCells; rw [List.getElem?_map, HTT.out]; rfl)
              have hga := World.grownBy_alloc w2 (.cells #[.string ⟨t.toArray⟩, .int .i64 (d : Int)] 41) none
              have hown2 := ownsRow_kept HO.out (grownBy_trans HG2.out hga nofun) (own_none _)
              have hsl := Sl.of_own (World.ownsRow_lit (base := 0) (size := 2) (e := 41) w2 #[.string ⟨t.toArray⟩, .int .i64 (d : Int)] 1 (Nat.zero_le _) (by decide) rfl) (by intro x hx; simp at hx; rcases hx with rfl | rfl <;> rfl)
              have hs1 := HG.out.size
              have hs2 := HG2.out.size
              have HGA := Lib.hid hga
              have HO2 := Lib.hid hown2
              have HSL := Lib.hid hsl
              clear hcells hga hown2 hsl hz
              go_wp2_with (at_builtin; refine wpList_append_sl _ rfl (.tmp 55) (.tmp 62) 29 rfl w.heap.size 41 i0 _ 2 24 Tryd.underlying29 hi hz0 hz1 hz2 rfl (by decide) _ L.length _ rfl HO2.out (some ⟨w2.heap.size, 0, none⟩) 1 1 [.string ⟨t.toArray⟩, .int .i64 (d : Int)] rfl HSL.out (by unfold maxLen; omega) (by omega) (by simp; omega) ?_)
              rintro v' w' ⟨hown', hg', hat⟩
              have hgw : w.grownBy w' none := grownBy_trans (grownBy_trans HG.out (grownBy_trans HG2.out HGA.out nofun) nofun) hg' (fun l hl => .inr (HO2.out.lt l hl).1)
              have HOW := Lib.hid hown'
              have HGW := Lib.hid hgw
              clear hown' hg' hat hgw
              go_wp2_with fail
              go_roundw
              case rel =>
                refine ⟨j + 1, by omega, by go_num, ?_, HGW.out⟩
                have e : offCells (L ++ [(t, d)]) = offCells L ++ [.string ⟨t.toArray⟩, .int .i64 (d : Int)] := by simp [offCells]
                rw [HNX.out, HZ.out, e, List.length_append]
                exact HOW.out
              case measure => first | (simp [intOf]; done) | (simp [intOf]; omega)
      · have hz : refOff codes mo t = [] := refOff_none hcs
        have HZ := Lib.hid hz
        clear hz hcs
        go_wp2_with fail
        go_roundw
        case rel => exact ⟨j + 1, by omega, by go_num, by rw [HNX.out, HZ.out, List.append_nil]; exact ownsRow_kept HO.out HG1.out (own_none _), HGS.out⟩
        case measure => first | (simp [intOf]; done) | (simp [intOf]; omega)
    · obtain rfl : j = n := by omega
      rw [List.take_of_length_le (by rw [HN.out]; exact Nat.le_refl _)] at hown
      have HO := Lib.hid hown
      have HG := Lib.hid hg
      clear hown hg
      go_wp2_with fail
      go_ret
      exact ⟨_, rfl, HO.out, HG.out⟩
end Go.Proofs.YtdcdhcgfhapbnaaDoor

namespace Go.Proofs.YtdcdhcgfhapbnaaDoor
open Go Go.RowKit Go.Lib Go.Maps

theorem cutB_some {n : Nat} {h : Wd} {cs : List Int} (hc : codesB h = some cs) : cutB n h = some cs := by
  cases n with
  | zero => exact hc
  | succ n => unfold cutB; rw [hc]

theorem cutB_next {n : Nat} {h : Wd} (hc : codesB h = none) (h0 : h ≠ []) : cutB (n + 1) h = cutB n h.dropLast := by
  conv => lhs; unfold cutB
  rw [hc]; simp only; rw [if_neg h0]

/-- What hope answers. -/
def HopeRes (codes : List Int) (most : Nat) (head : Wd) (w : World) (e : Ending) (w' : World) : Prop :=
  ∃ b : Bool, e = .returned (.bool b) ∧ (hopeS codes most head = true → b = true) ∧ w.grownBy w' none

/-- The codes of a beginning under way, as they lie. -/
def CutAt (w : World) (h : Wd) (v : Value) (ok : Bool) : Prop :=
  (∃ cs A c, codesB h = some cs ∧ ok = true ∧ v = .slice A cs.length c ∧ Sl w 1 A cs.length (intCells cs)) ∨ (codesB h = none ∧ ok = false ∧ v = .slice none 0 0)

theorem CutAt.kept {w w' : World} {h : Wd} {v : Value} {ok : Bool} (a : CutAt w h v ok) (g : w.grownBy w' none) : CutAt w' h v ok := by
  rcases a with ⟨cs, A, c, h1, h2, h3, h4⟩ | h1
  · exact .inl ⟨cs, A, c, h1, h2, h3, h4.kept g nofun⟩
  · exact .inr h1

theorem CodesRes.cut {s : Wd} {w w' : World} {e : Ending} (h : CodesRes s w e w') : w.grownBy w' none ∧ ∃ v ok, e = .returned (.tuple #[v, .bool ok]) ∧ CutAt w' s v ok := by
  obtain ⟨hg, h⟩ := h
  refine ⟨hg, ?_⟩
  rcases h with ⟨cs, A, c, h1, h2, h3⟩ | ⟨h1, h2⟩
  · exact ⟨_, true, h2, .inl ⟨cs, A, c, h1, rfl, rfl, Sl.of_own h3 (fun x hx => by obtain ⟨d, _, rfl⟩ := List.mem_map.1 hx; rfl)⟩⟩
  · exact ⟨_, false, h2, .inr ⟨h1, rfl, rfl⟩⟩

theorem sl_take {w : World} {A : Option Addr} {n k : Nat} {codes : List Int} (h : Sl w 1 A n (intCells codes)) (hk : k ≤ n) (hn : codes.length = n) : Sl w 1 A k (intCells (codes.take k)) := by
  refine ⟨by simp [intCells]; omega, fun x hx => by obtain ⟨d, _, rfl⟩ := List.mem_map.1 hx; rfl, fun h0 => ?_⟩
  obtain ⟨b, o, rfl, hc⟩ := h.2.2 (by omega)
  refine ⟨b, o, rfl, fun j u hu => hc j u ?_⟩
  unfold intCells at hu ⊢
  rw [List.getElem?_map] at hu ⊢
  rcases Nat.lt_or_ge j k with h1 | h1
  · rw [List.getElem?_take_of_lt h1] at hu; exact hu
  · rw [List.getElem?_eq_none (by rw [List.length_take]; omega)] at hu; cases hu

end Go.Proofs.YtdcdhcgfhapbnaaDoor

namespace Go.Proofs.YtdcdhcgfhapbnaaDoor
open Go Go.RowKit Go.Lib Go.Maps

/-- The beginnings whose beginning one byte shorter has hope. -/
def mostC (codes : List Int) (mo : Nat) (H : List Wd) : Nat := ((H.drop 1).filter fun h => hopeS codes mo h.dropLast).length

theorem drop_one_take {H : List Wd} {j : Nat} {h : Wd} (hj : 1 ≤ j) (hh : H[j]? = some h) : (H.drop 1).take j = (H.drop 1).take (j - 1) ++ [h] := by
  obtain ⟨k, rfl⟩ : ∃ k, j = k + 1 := ⟨j - 1, by omega⟩
  rw [List.take_add_one, List.getElem?_drop, show 1 + k = k + 1 by omega, hh]; rfl

end Go.Proofs.YtdcdhcgfhapbnaaDoor
