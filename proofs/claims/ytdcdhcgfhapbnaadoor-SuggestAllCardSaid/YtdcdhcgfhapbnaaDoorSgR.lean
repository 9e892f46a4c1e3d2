/-
  ref19.Top, the document's answer: the walk. Conditions: words of at most 1000 bytes, at most 500 of each kind.
-/
import Derived.Test.YtdcdhcgfhapbnaaDoorSgT
import Derived.Test.YtdcdhcgfhapbnaaDoorHeads
namespace Go.Proofs.YtdcdhcgfhapbnaaDoor.Sg
open Go Go.RowKit Go.Maps

def fullW (t : Wd) : Bool := !t.isEmpty
/-- The words, without the empty one. -/
def wordsR (V more : List Wd) : List Wd := more.foldl (fun L t => if fullW t then insU t L else L) (V.filter fullW)
def topR (V more : List Wd) (cs : List Int) (K : Int) : List Of := (passes ((wordsR V more).flatMap (refOff cs 2))).take (topN K)

theorem filt_take {V : List Wd} {j : Nat} (hj : j < V.length) : (V.take (j + 1)).filter fullW = (V.take j).filter fullW ++ (if fullW V[j] then [V[j]] else []) := by
  rw [List.take_succ_eq_append_getElem hj, List.filter_append]
  by_cases h : fullW V[j] = true
  · rw [if_pos h, List.filter_cons_of_pos h]; rfl
  · rw [if_neg h, List.filter_cons_of_neg h]; rfl

theorem fold_take {more : List Wd} {j : Nat} (hj : j < more.length) (L : List Wd) : (more.take (j + 1)).foldl (fun L t => if fullW t then insU t L else L) L = if fullW more[j] then insU more[j] ((more.take j).foldl (fun L t => if fullW t then insU t L else L) L) else (more.take j).foldl (fun L t => if fullW t then insU t L else L) L := by
  rw [List.take_succ_eq_append_getElem hj, List.foldl_append]
  rfl

theorem mem_wordsR {V more : List Wd} {t : Wd} (h : t ∈ wordsR V more) : t ∈ V ∨ t ∈ more := by
  unfold wordsR at h
  have key : ∀ (more : List Wd) (L : List Wd), t ∈ more.foldl (fun L t => if fullW t then insU t L else L) L → t ∈ L ∨ t ∈ more := by
    intro more
    induction more with
    | nil => exact fun L h => .inl h
    | cons x more ih =>
      intro L h
      rcases ih _ h with h | h
      · change t ∈ (if fullW x = true then insU x L else L) at h
        split at h
        · rcases mem_insU.1 h with h | h
          · exact .inr (by simp [h])
          · exact .inl h
        · exact .inl h
      · exact .inr (by simp [h])
  rcases key more _ h with h | h
  · exact .inl (List.mem_filter.1 h).1
  · exact .inr h

theorem insU_len (s : Wd) : ∀ L : List Wd, (insU s L).length ≤ L.length + 1
  | [] => by simp [insU]
  | x :: L => by
    have ih := insU_len s L
    unfold insU
    split
    · simp
    · split
      · simp
      · rw [List.length_cons, List.length_cons]; omega

/-- Passes under way. -/
def passU (m : List Of) : Nat → List Of
  | 0 => []
  | f + 1 => passU m f ++ m.filter (fun x => x.2 == f)

theorem passU_three (m : List Of) : passU m 3 = passes m := by
  unfold passes
  show (([] ++ _) ++ _) ++ _ = _
  rw [List.nil_append]

theorem pass_take {m : List Of} {i f : Nat} (hi : i < m.length) : passU m f ++ (m.take (i + 1)).filter (fun x => x.2 == f) = if m[i].2 = f then passU m f ++ (m.take i).filter (fun x => x.2 == f) ++ [m[i]] else passU m f ++ (m.take i).filter (fun x => x.2 == f) := by
  rw [List.take_succ_eq_append_getElem hi, List.filter_append]
  by_cases h : m[i].2 = f
  · rw [if_pos h, List.filter_cons_of_pos (by rw [h]; simp), ← List.append_assoc]; rfl
  · rw [if_neg h, List.filter_cons_of_neg (by simpa using h)]; simp

theorem take_snoc (X : List Of) (x : Of) (n : Nat) : (X ++ [x]).take n = if (X.take n).length < n then X.take n ++ [x] else X.take n := by
  rw [List.length_take]
  by_cases h : min n X.length < n
  · rw [if_pos h, List.take_of_length_le (by rw [List.length_append]; simp; omega), List.take_of_length_le (by omega)]
  · rw [if_neg h, List.take_append_of_le_length (by omega)]

/-- The passes: how far, and which. -/
structure FarRel (m : List Of) (TN : Nat) (w : World) (lv fv : Value) (wr : World) : Prop where
  out : ∃ f : Nat, f ≤ 3 ∧ fv = .int .i64 (f : Int) ∧ Offs wr w.heap.size lv ((passU m f).take TN) ∧ w.grownBy wr none
structure PassRel (m : List Of) (TN f : Nat) (w : World) (lv iv : Value) (wr : World) : Prop where
  out : ∃ i : Nat, i ≤ m.length ∧ iv = .int .i64 (i : Int) ∧ Offs wr w.heap.size lv ((passU m f ++ (m.take i).filter (fun x => x.2 == f)).take TN) ∧ w.grownBy wr none

/-- The first loop: the words that are none but empty. -/
structure FullRel (V : List Wd) (w : World) (lv jv : Value) (wr : World) : Prop where
  out : ∃ j : Nat, j ≤ V.length ∧ jv = .int .i64 (j : Int) ∧ wr.ownsRow w.heap.size 9 1 lv ((V.take j).filter fullW).length (strCells ((V.take j).filter fullW)) ∧ w.grownBy wr none

/-- The second: those besides. -/
structure PutRel (V more : List Wd) (w : World) (lv jv : Value) (wr : World) : Prop where
  out : ∃ (j : Nat) (A : Option Addr) (n c : Nat), j ≤ more.length ∧ jv = .int .i64 (j : Int) ∧ lv = .slice A n c ∧
    ((more.take j).foldl (fun L t => if fullW t then insU t L else L) (V.filter fullW)).length = n ∧ n ≤ c ∧ n ≤ V.length + j ∧
    Sl wr 1 A n (strCells ((more.take j).foldl (fun L t => if fullW t then insU t L else L) (V.filter fullW))) ∧ w.grownBy wr none

def TopRRes (V more : List Wd) (word : Wd) (K : Int) (w : World) (e : Ending) (w' : World) : Prop := w.grownBy w' none ∧ (((codesB word = none ∨ word = []) ∧ e = .returned (.tuple #[.slice none 0 0, .int .i64 1])) ∨
    (∃ cs, codesB word = some cs ∧ word ≠ [] ∧ 24 < cs.length ∧ e = .returned (.tuple #[.slice none 0 0, .int .i64 7])) ∨
    (∃ cs A c, codesB word = some cs ∧ word ≠ [] ∧ cs.length ≤ 24 ∧ e = .returned (.tuple #[.slice A (topR V more cs K).length c, .int .i64 0]) ∧ Sl w' 2 A (topR V more cs K).length (rowO (topR V more cs K))))

set_option maxRecDepth 100000 in
set_option maxHeartbeats 8000000 in
theorem topr_walk (V more : List Wd) (word : Wd) (K : Int) (VA MA : Option Addr) (vn vc mn mc : Nat) (w : World)
    (hvn : V.length = vn) (hvn2 : vn ≤ 500) (hV : Sl w 1 VA vn (strCells V)) (hvl : ∀ t ∈ V, t.length ≤ 1000)
    (hmn : more.length = mn) (hmn2 : mn ≤ 500) (hM : Sl w 1 MA mn (strCells more)) (hml : ∀ t ∈ more, t.length ≤ 1000) (hwl : word.length ≤ 1000) :
    Calls Tryd.prog 12 #[.slice VA vn vc, .slice MA mn mc, .string ⟨word.toArray⟩, .int .i64 K] w (TopRRes V more word K w) := by
  obtain ⟨i0, hi, hz0, hz1, hz2⟩ := info_parts of_info
  obtain ⟨i1, hi1, hy0, hy1, hy2⟩ := info_parts str_info
  have hcd := codes_walk word w (by omega)
  have HVN := Lib.hid hvn
  have HV := Lib.hid hV
  have HVL := Lib.hid hvl
  have HMN := Lib.hid hmn
  have HM := Lib.hid hM
  have HML := Lib.hid hml
  have HCD := Lib.hid hcd
  clear hvn hV hvl hmn hM hml hcd
  go_enter Tryd.func12, Tryd.ntmps12
  go_wp2_with fail
  refine HCD.out.mono ?_
  rintro e w1 ⟨hg1, ⟨cs, CA, cc, hcs, rfl, hown⟩ | ⟨hcs, rfl⟩⟩
  · by_cases hwe : word = []
    · have HG := Lib.hid hg1
      have hwb : (List.isEmpty word) = true := by rw [hwe]; rfl
      have HWE := Lib.hid hwe
      clear hg1 hcs hown hwe
      go_wp2_with fail
      go_ret2
      exact ⟨HG.out, .inl ⟨.inr HWE.out, rfl⟩⟩
    · have hwb : (List.isEmpty word) = false := by
        cases word with
        | nil => exact absurd rfl hwe
        | cons a b => rfl
      have HWE := Lib.hid hwe
      have HG1 := Lib.hid hg1
      have HCS := Lib.hid hcs
      have HCL := Lib.hid (Sl.of_own hown (fun x hx => by obtain ⟨y, _, rfl⟩ := List.mem_map.1 hx; rfl))
      clear hg1 hcs hown hwe
      by_cases h24 : 24 < cs.length
      · have hb : (24 : Int) < (cs.length : Int) := by omega
        have H24 := Lib.hid h24
        clear h24
        go_wp2_with fail
        go_ret2
        exact ⟨HG1.out, .inr (.inl ⟨cs, HCS.out, HWE.out, H24.out, rfl⟩)⟩
      · have hb : ¬ (24 : Int) < (cs.length : Int) := by omega
        have h24' : cs.length ≤ 24 := by omega
        clear h24
        go_wp2_with fail
        go_loopw [12, 13] (fun lv jv wr => FullRel V w1 lv jv wr) (fun _ jv _ => vn - (RowKit.intOf jv).toNat)
        case atStart => exact ⟨0, Nat.zero_le _, rfl, World.ownsRow_nil _ _ _ _, grownBy_refl _ _⟩
        case round =>
          obtain ⟨j, hj, rfl, hof, hgr⟩ := hrel.out
          rw [HVN.out] at hj
          have hgw := grownBy_trans HG1.out hgr nofun
          obtain ⟨LL, hLL⟩ : ∃ LL, (V.take j).filter fullW = LL := ⟨_, rfl⟩
          obtain ⟨N, hN⟩ : ∃ N, LL.length = N := ⟨_, rfl⟩
          rw [hLL, hN] at hof
          have hNj : N ≤ j := by
            rw [← hN, ← hLL]
            have := List.length_filter_le fullW (V.take j)
            rw [List.length_take] at this
            omega
          obtain ⟨lA, lc, rfl⟩ := own_slice hof
          have HLL := Lib.hid (And.intro hLL hN)
          clear hLL hN
          rcases Nat.lt_or_ge j vn with hlt | hge
          · have hltI : (j : Int) < (vn : Int) := Int.ofNat_lt.2 hlt
            have hjm : j < V.length := by rw [HVN.out]; exact hlt
            obtain ⟨p1, o1, rfl, hc1⟩ := (HV.out.kept hgw nofun).2.2 (by omega)
            have x0 := hc1 j (.string ⟨V[j].toArray⟩) (by rw [strCells, List.getElem?_map, List.getElem?_eq_getElem hjm]; rfl)
            have hmt := filt_take hjm
            generalize V[j] = tw at *
            have hwj : IntKind.i64.wrap ((j : Int) + 1) = (j : Int) + 1 := by rw [IntKind.wrap_i64]; omega
            have HOFR := Lib.hid hof
            have HGR := Lib.hid hgr
            by_cases hf : fullW tw = true
            · rw [if_pos hf] at hmt
              have hfe : (List.isEmpty tw) = false := by unfold fullW at hf; simpa using hf
              have HMT := Lib.hid hmt
              have hX := grownBy_alloc (grownBy_refl wr none) (Obj.cells #[.string ⟨tw.toArray⟩] 9)
              have hsl9 := Sl.of_own (World.ownsRow_lit (base := 0) (size := 1) (e := 9) wr #[.string ⟨tw.toArray⟩] 1 (Nat.zero_le _) (by decide) rfl) (strCells_one' [tw])
              have HSL9 := Lib.hid hsl9
              have HO9 := Lib.hid (ownsRow_kept hof hX (own_none _))
              have HG9 := Lib.hid (grownBy_trans hgr hX nofun)
              have hsz := hgr.size
              clear hc1 hjm hmt hof hgr hgw hX hsl9 hf
              go_wp2_with (at_builtin; refine wpList_append_sl _ rfl (.tmp 44) (.tmp 49) 22 rfl w1.heap.size 9 i1 _ 1 16 Tryd.underlying22 hi1 hy0 hy1 hy2 rfl (by decide) (.slice lA N lc) N _ rfl HO9.out (some ⟨wr.heap.size, 0, none⟩) 1 1 _ rfl HSL9.out (by unfold maxLen; omega) (by omega) (by simp; omega) ?_)
              rintro v' w10 ⟨hs10, hg10, _⟩
              have HG11 := Lib.hid (grownBy_trans HG9.out hg10 (fun i e => .inr ((HO9.out.lt i e).1)))
              have HS11 := Lib.hid hs10
              clear hs10 hg10 x0
              go_wp2_with fail
              go_roundw
              case rel => exact ⟨j + 1, by rw [HVN.out]; omega, by simp, by
                rw [HMT.out, HLL.out.1, List.length_append, HLL.out.2, show strCells (LL ++ [tw]) = strCells LL ++ [.string ⟨tw.toArray⟩] from by simp [strCells]]
                exact HS11.out, HG11.out⟩
              case measure => exact meas hlt
            · rw [if_neg hf, List.append_nil] at hmt
              have hfe : (List.isEmpty tw) = true := by unfold fullW at hf; simpa using hf
              have HMT := Lib.hid hmt
              clear hc1 hjm hmt hof hgr hgw hf
              go_wp2_with fail
              go_roundw
              case rel => exact ⟨j + 1, by rw [HVN.out]; omega, by simp, by rw [HMT.out, HLL.out.1, HLL.out.2]; exact HOFR.out, HGR.out⟩
              case measure => exact meas hlt
          · have hjV : V.take j = V := List.take_of_length_le (by rw [HVN.out]; exact hge)
            have hb2 : ¬ (j : Int) < (vn : Int) := by omega
            have hLV : V.filter fullW = LL := by rw [← HLL.out.1, hjV]
            have HLV := Lib.hid hLV
            have HS1 := Lib.hid (Sl.of_own hof (strCells_one' LL))
            have HN1 := Lib.hid (show N ≤ lc by
              rcases hof.2 with ⟨e, h0⟩ | ⟨q, cap, cur, e, _, _, hc, _⟩
              · omega
              · cases e; exact hc)
            have HGR := Lib.hid hgr
            have HGW := Lib.hid hgw
            have hNv : N ≤ vn := by omega
            clear hof hgr hgw hjV hLV
            go_wp2_with fail
            go_loopw [12, 14] (fun lv jv wr => PutRel V more w1 lv jv wr) (fun _ jv _ => mn - (RowKit.intOf jv).toNat)
            case atStart => exact ⟨0, lA, N, lc, Nat.zero_le _, rfl, rfl, by show (V.filter fullW).length = N; rw [HLV.out, HLL.out.2], HN1.out, by rw [HVN.out]; omega, by show Sl _ 1 lA N (strCells (V.filter fullW)); rw [HLV.out]; exact HS1.out, HGR.out⟩
            case round =>
              obtain ⟨j2, A2, n2, c2, hj2, rfl, rfl, hn2, hnc2, hnb2, hs2, hg2⟩ := hrel.out
              rw [HMN.out] at hj2
              rw [HVN.out] at hnb2
              have hgw2 := grownBy_trans HG1.out hg2 nofun
              obtain ⟨WW, hWW⟩ : ∃ WW, (more.take j2).foldl (fun L t => if fullW t then insU t L else L) (V.filter fullW) = WW := ⟨_, rfl⟩
              rw [hWW] at hn2 hs2
              have HWW := Lib.hid hWW
              have HN2 := Lib.hid hn2
              clear hWW hn2
              rcases Nat.lt_or_ge j2 mn with hlt2 | hge2
              · have hltI : (j2 : Int) < (mn : Int) := Int.ofNat_lt.2 hlt2
                have hjm : j2 < more.length := by rw [HMN.out]; exact hlt2
                obtain ⟨p1, o1, rfl, hc1⟩ := (HM.out.kept hgw2 nofun).2.2 (by omega)
                have x0 := hc1 j2 (.string ⟨more[j2].toArray⟩) (by rw [strCells, List.getElem?_map, List.getElem?_eq_getElem hjm]; rfl)
                have hmt := fold_take hjm (V.filter fullW)
                generalize more[j2] = tw at *
                rw [HWW.out] at hmt
                have hwj : IntKind.i64.wrap ((j2 : Int) + 1) = (j2 : Int) + 1 := by rw [IntKind.wrap_i64]; omega
                by_cases hf : fullW tw = true
                · rw [if_pos hf] at hmt
                  have hfe : (List.isEmpty tw) = false := by unfold fullW at hf; simpa using hf
                  have HMT := Lib.hid hmt
                  have hpw := put_walk WW tw A2 n2 c2 wr HN2.out hnc2 (by omega) hs2
                  have HPW := Lib.hid hpw
                  have HG2 := Lib.hid hg2
                  clear hc1 hjm hmt hg2 hgw2 hf hpw hs2
                  go_wp2_with fail
                  refine HPW.out.mono ?_
                  rintro e w5 ⟨A5, n5, c5, rfl, hn5, hnc5, hs5, hg5⟩
                  have HG5 := Lib.hid (grownBy_trans HG2.out hg5 nofun)
                  have HS5 := Lib.hid hs5
                  have HN5 := Lib.hid (And.intro hn5 hnc5)
                  clear hg5 hs5 x0 hn5 hnc5
                  go_wp2_with fail
                  go_roundw
                  case rel => exact ⟨j2 + 1, A5, n5, c5, by rw [HMN.out]; omega, by simp, rfl, by rw [HMT.out]; exact HN5.out.1, HN5.out.2, by
                    rw [HVN.out]
                    have h5 := insU_len tw WW
                    have h6 := HN5.out.1
                    have h7 := HN2.out
                    omega, by rw [HMT.out]; exact HS5.out, HG5.out⟩
                  case measure => exact meas hlt2
                · rw [if_neg hf] at hmt
                  have hfe : (List.isEmpty tw) = true := by unfold fullW at hf; simpa using hf
                  have HMT := Lib.hid hmt
                  have HS2 := Lib.hid hs2
                  have HG2 := Lib.hid hg2
                  clear hc1 hjm hmt hg2 hgw2 hf hs2
                  go_wp2_with fail
                  go_roundw
                  case rel => exact ⟨j2 + 1, A2, n2, c2, by rw [HMN.out]; omega, by simp, rfl, by rw [HMT.out]; exact HN2.out, hnc2, by rw [HVN.out]; omega, by rw [HMT.out]; exact HS2.out, HG2.out⟩
                  case measure => exact meas hlt2
              · have hjM : more.take j2 = more := List.take_of_length_le (by rw [HMN.out]; exact hge2)
                have hb3 : ¬ (j2 : Int) < (mn : Int) := by omega
                have hWR : wordsR V more = WW := by rw [← HWW.out, hjM]; rfl
                have hWl : ∀ t ∈ WW, t.length ≤ 1000 := fun t ht => by
                  rw [← hWR] at ht
                  rcases mem_wordsR ht with h5 | h5
                  · exact HVL.out t h5
                  · exact HML.out t h5
                have hrw := refwalk_walk WW A2 CA n2 cs.length c2 cc cs 2 wr HN2.out (by omega) hWl hs2 rfl (by omega) (HCL.out.kept hg2 nofun)
                rw [show mostS 2 = 2 from by decide] at hrw
                have HRW := Lib.hid hrw
                have HWR := Lib.hid hWR
                have HGW2 := Lib.hid hgw2
                clear hjM hWR hWl hrw hgw2 hg2 hs2
                go_wp2_with fail
                refine HRW.out.mono ?_
                rintro e w5 ⟨mv, rfl, hown5, hg5⟩
                obtain ⟨m, hm⟩ : ∃ m, WW.flatMap (refOff cs 2) = m := ⟨_, rfl⟩
                have hml : m.length ≤ 1000 := by
                  rw [← hm]
                  have h5 := offers_len cs 2 WW
                  have h6 := HN2.out
                  omega
                rw [hm] at hown5
                rw [← rowO_off] at hown5
                obtain ⟨mA, mc2, rfl, hms⟩ := offs_slice hown5
                have HMS := Lib.hid hms
                have HMM := Lib.hid hm
                have HG5 := Lib.hid (grownBy_trans HGW2.out hg5 nofun)
                clear hown5 hg5 hms hm HRW
                go_wp2_with fail
                go_loopw [16, 17] (fun lv fv wr => FarRel m (topN K) w5 lv fv wr) (fun _ fv _ => 3 - (RowKit.intOf fv).toNat)
                case atStart => exact ⟨0, by omega, rfl, by show Offs _ _ _ (List.take _ []); rw [List.take_nil]; exact World.ownsRow_nil _ _ _ _, grownBy_refl _ _⟩
                case round =>
                  obtain ⟨f, hf3, rfl, hof, hgr⟩ := hrel.out
                  rcases Nat.lt_or_ge f 3 with hfl | hfg
                  · have hfI : (f : Int) ≤ 2 := by omega
                    have hwf : IntKind.i64.wrap ((f : Int) + 1) = (f : Int) + 1 := by rw [IntKind.wrap_i64]; omega
                    have HOF := Lib.hid hof
                    have HGR := Lib.hid hgr
                    clear hof hgr
                    go_wp2_with fail
                    go_loopw [16, 18] (fun lv iv wr => PassRel m (topN K) f w5 lv iv wr) (fun _ iv _ => m.length - (RowKit.intOf iv).toNat)
                    case atStart => exact ⟨0, Nat.zero_le _, rfl, by rw [List.take_zero, List.filter_nil, List.append_nil]; exact HOF.out, HGR.out⟩
                    case round =>
                      obtain ⟨i, hil, rfl, hof, hgr⟩ := hrel.out
                      obtain ⟨X, hX⟩ : ∃ X, (passU m f ++ (m.take i).filter (fun x => x.2 == f)).take (topN K) = X := ⟨_, rfl⟩
                      obtain ⟨N2, hN2⟩ : ∃ N2, X.length = N2 := ⟨_, rfl⟩
                      have htn : topN K ≤ 10 := by unfold topN; omega
                      have hN10 : N2 ≤ 10 := by
                        rw [← hN2, ← hX, List.length_take]
                        omega
                      rw [hX] at hof
                      obtain ⟨oA, oc, rfl, _⟩ := offs_slice hof
                      have hof2 : wr.ownsRow w5.heap.size 41 2 (.slice oA N2 oc) N2 (rowO X) := by
                        have h5 := hof
                        unfold Offs at h5
                        rw [hN2] at h5
                        exact h5
                      rw [hN2]
                      rcases Nat.lt_or_ge i m.length with hlt | hge
                      · have hltI : (i : Int) < (m.length : Int) := Int.ofNat_lt.2 hlt
                        obtain ⟨p1, o1, rfl, hc1⟩ := (HMS.out.kept hgr nofun).2.2 (by omega)
                        obtain ⟨r0, r1⟩ := rowO_at m i hlt
                        have x0 := hc1 _ _ r0
                        have x1 := hc1 _ _ r1
                        rw [← Nat.add_assoc] at x1
                        have hpt := pass_take (f := f) hlt
                        have hwi : IntKind.i64.wrap ((i : Int) + 1) = (i : Int) + 1 := by rw [IntKind.wrap_i64]; omega
                        have HXX := Lib.hid (And.intro hX hN2)
                        have HOF2 := Lib.hid hof2
                        have HGR2 := Lib.hid hgr
                        generalize m[i] = x at *
                        clear hc1 r0 r1 hof hX hN2
                        by_cases hxf : x.2 = f
                        · have hxb : ((x.2 : Int) == (f : Int)) = true := by rw [hxf]; simp
                          rw [if_pos hxf] at hpt
                          have hts := take_snoc (passU m f ++ (m.take i).filter (fun x => x.2 == f)) x (topN K)
                          rw [HXX.out.1, HXX.out.2] at hts
                          have m1 : ∀ (ts : Array TypeId) (ty : TypeId) (w : World), (Builtin.max_ ts ty #[.int .i64 K, .int .i64 0]).run Tryd.prog w = .ok (.int .i64 (max K 0)) w := by
                            intro ts ty w
                            rw [run_max_int2]; congr 2; split <;> omega
                          have m2 : ∀ (ts : Array TypeId) (ty : TypeId) (w : World), (Builtin.min_ ts ty #[.int .i64 (max K 0), .int .i64 10]).run Tryd.prog w = .ok (.int .i64 (topN K : Int)) w := by
                            intro ts ty w
                            rw [run_min_int2]; congr 2; unfold topN; split <;> omega
                          generalize max K 0 = K0 at *
                          generalize topN K = TN at *
                          by_cases hnt : N2 < TN
                          · have hnI : (N2 : Int) < (TN : Int) := by omega
                            rw [if_pos hnt] at hts
                            have HPT := Lib.hid (And.intro hpt hts)
                            have hXa := grownBy_alloc (grownBy_refl wr none) (ofO x)
                            have hsl9 := Sl.of_own (World.ownsRow_lit (base := 0) (size := 2) (e := 41) wr #[.string ⟨x.1.toArray⟩, .int .i64 (x.2 : Int)] 1 (Nat.zero_le _) (by decide) rfl) (rowO_one [x])
                            have HSL9 := Lib.hid hsl9
                            have HO9 := Lib.hid (ownsRow_kept hof2 hXa (own_none _))
                            have HG9 := Lib.hid (grownBy_trans hgr hXa nofun)
                            have hsz := hgr.size
                            have HXF := Lib.hid hxf
                            clear hpt hts hXa hsl9 hof2 hgr hnt hxf
                            go_wp2_with (at_builtin; refine wpList_append_sl _ rfl (.tmp 96) (.tmp 101) 29 rfl w5.heap.size 41 i0 _ 2 24 Tryd.underlying29 hi hz0 hz1 hz2 rfl (by decide) (.slice oA N2 oc) N2 _ rfl HO9.out (some ⟨wr.heap.size, 0, none⟩) 1 1 _ rfl HSL9.out (by unfold maxLen; omega) (by omega) (by simp; omega) ?_)
                            rintro v' w10 ⟨hs10, hg10, _⟩
                            have hg11 : w5.grownBy w10 none := grownBy_trans HG9.out hg10 (fun i e => .inr ((HO9.out.lt i e).1))
                            have hs11 : Offs w10 w5.heap.size v' (X ++ [x]) := by
                              unfold Offs
                              rw [List.length_append, rowO_append, HXX.out.2]
                              exact hs10
                            have HS11 := Lib.hid hs11
                            have HG11 := Lib.hid hg11
                            clear hs10 hg10 hs11 hg11 x0 x1
                            go_wp2_with fail
                            go_roundw
                            case rel => exact ⟨i + 1, hlt, by simp, by rw [HPT.out.1, HPT.out.2]; exact HS11.out, HG11.out⟩
                            case measure => exact meas hlt
                          · have hnI : ¬ (N2 : Int) < (TN : Int) := by omega
                            rw [if_neg hnt] at hts
                            have HPT := Lib.hid (And.intro hpt hts)
                            have HXF := Lib.hid hxf
                            clear hpt hts hof2 hgr hnt hxf
                            go_wp2_with fail
                            go_roundw
                            case rel => exact ⟨i + 1, hlt, by simp, by rw [HPT.out.1, HPT.out.2]; unfold Offs; rw [HXX.out.2]; exact HOF2.out, HGR2.out⟩
                            case measure => exact meas hlt
                        · have hxb : ((x.2 : Int) == (f : Int)) = false := by rw [beq_eq_false_iff_ne]; omega
                          have hxn : ¬ ((x.2 : Int) = (f : Int)) := by omega
                          rw [if_neg hxf] at hpt
                          have HPT := Lib.hid hpt
                          clear hpt hof2 hgr hxf
                          go_wp2_with fail
                          go_roundw
                          case rel => exact ⟨i + 1, hlt, by simp, by rw [HPT.out, HXX.out.1]; unfold Offs; rw [HXX.out.2]; exact HOF2.out, HGR2.out⟩
                          case measure => exact meas hlt
                      · have hb4 : ¬ (i : Int) < (m.length : Int) := by omega
                        have hmi : m.take i = m := List.take_of_length_le hge
                        rw [hmi] at hX
                        have HXX := Lib.hid (And.intro hX hN2)
                        have HOF2 := Lib.hid hof2
                        have HGR2 := Lib.hid hgr
                        clear hX hN2 hof hof2 hgr hmi
                        go_wp2_with fail
                        go_roundw
                        case rel => exact ⟨f + 1, by omega, by simp, by
                          show Offs _ _ _ ((passU m f ++ m.filter (fun x => x.2 == f)).take (topN K))
                          rw [HXX.out.1]
                          unfold Offs
                          rw [HXX.out.2]
                          exact HOF2.out, HGR2.out⟩
                        case measure =>
                          simp only [RowKit.intOf]
                          omega
                  · have hf3e : f = 3 := by omega
                    subst hf3e
                    have hfI : ¬ (3 : Int) ≤ 2 := by omega
                    rw [passU_three] at hof
                    have hTR : topR V more cs K = (passes m).take (topN K) := by
                      unfold topR
                      rw [HWR.out, HMM.out]
                    rw [← hTR] at hof
                    obtain ⟨oA, oc, rfl, hos⟩ := offs_slice hof
                    have HOS := Lib.hid hos
                    have HGF := Lib.hid (grownBy_trans HG5.out hgr nofun)
                    clear hof hgr hTR hos
                    go_wp2_with fail
                    go_ret2
                    exact ⟨HGF.out, .inr (.inr ⟨cs, oA, oc, HCS.out, HWE.out, h24', rfl, HOS.out⟩)⟩
  · have HG := Lib.hid hg1
    have HCS := Lib.hid hcs
    clear hg1 hcs
    go_wp2_with fail
    go_ret2
    exact ⟨HG.out, .inl ⟨.inl HCS.out, rfl⟩⟩
end Go.Proofs.YtdcdhcgfhapbnaaDoor.Sg
