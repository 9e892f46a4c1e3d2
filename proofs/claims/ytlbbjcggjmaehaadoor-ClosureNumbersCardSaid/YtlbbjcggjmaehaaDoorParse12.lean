/-
  ref12.Parse: the walk, by shape: no more entries than lines. Conditions: a text of at most 100000 bytes.
-/
import Derived.Test.YtlbbjcggjmaehaaDoorParse11
import Derived.Deep.CutBlock
import Derived.Test.YtlbbjcggjmaehaaDoorAll
import Derived.Test.YtlbbjcggjmaehaaDoorGrowsP
namespace Go.Proofs.YtlbbjcggjmaehaaDoor
open Go Go.RowKit Go.Maps

/-- What a condition's cut leaves. -/
def BoolCut (p : Bool → Prop) (wr : World) (v : Value) (wx : World) : Prop := ∃ b : Bool, v = .bool b ∧ wx = wr ∧ p b

/-- Some answer, true or false. -/
def AnyB (w : World) (e : Ending) (w' : World) : Prop := (∃ b : Bool, e = .returned (.bool b)) ∧ w.grownBy w' none

set_option maxRecDepth 100000 in
set_option maxHeartbeats 2000000 in
theorem word12_walk (s : Wd) (w : World) (hl : s.length ≤ 100000) : Calls Tryd.prog 49 #[.string ⟨s.toArray⟩] w (AnyB w) := by
  have hsz := size_wd s
  have hva := fun u => valid01_walk s u (by omega)
  obtain ⟨vb, hvb⟩ : ∃ v, (codesB s).isSome = v := ⟨_, rfl⟩
  rw [hvb] at hva
  have hem : (⟨s.toArray⟩ : ByteArray).toList.isEmpty = decide (s = []) := by
    by_cases h : s = []
    · subst h; rw [ByteArray.toList_eq]; rfl
    · rw [wd_full h]; simp [h]
  obtain ⟨em, hem2⟩ : ∃ v, decide (s = []) = v := ⟨_, rfl⟩
  rw [hem2] at hem
  obtain ⟨S, hS⟩ : ∃ S, (⟨s.toArray⟩ : ByteArray) = S := ⟨_, rfl⟩
  rw [hS] at hsz hem ⊢
  simp only [hS] at hva
  have hgb : ∀ (i : Nat) (b : UInt8), s[i]? = some b → ∀ hh : i < S.size, S[i] = b := by
    subst hS
    exact fun i b h => get_byte h
  clear hS
  have HGB := Lib.hid hgb
  clear hgb
  obtain ⟨L, hL⟩ : ∃ L, s.length = L := ⟨_, rfl⟩
  rw [hL] at hsz hl
  have HVA := Lib.hid hva
  have HL := Lib.hid hL
  clear hva hvb hem2 hL
  go_enter Tryd.func49, Tryd.ntmps49
  go_wp2_with fail
  go_loopw [3] (fun iv wr => ∃ i : Nat, i ≤ L ∧ iv = .int .i64 (i : Int) ∧ wr = w) (fun iv _ => L - (RowKit.intOf iv).toNat)
  case atStart => exact ⟨0, Nat.zero_le _, rfl, rfl⟩
  case round =>
    obtain ⟨i, hin, rfl, rfl⟩ := hrel
    rcases Nat.lt_or_ge i L with hlt | hge
    · have hlti : (i : Int) < (L : Int) := by omega
      obtain ⟨b, hb⟩ : ∃ b, s[i]? = some b := ⟨_, List.getElem?_eq_getElem (by rw [HL.out]; exact hlt)⟩
      have hx := HGB.out i b hb
      clear hb
      have hbl := UInt8.toNat_lt b
      obtain ⟨e0, he0⟩ : ∃ v, decide (b.toNat < 33) = v := ⟨_, rfl⟩
      have he0' : decide ((b.toNat : Int) < 33) = e0 := by rw [← he0]; exact decide_eq_decide.2 (by omega)
      obtain ⟨e1, he1⟩ : ∃ v, ((b.toNat : Int) == 47) = v := ⟨_, rfl⟩
      obtain ⟨e2, he2⟩ : ∃ v, ((b.toNat : Int) == 35) = v := ⟨_, rfl⟩
      cases e0
      case' false => cases e1
      case' false.false => cases e2
      case false.false.false =>
        go_wp2_with fail
        go_roundw
        case rel => exact ⟨i + 1, by omega, by go_num, by first | rfl | trivial⟩
        case measure => simp [RowKit.intOf]; omega
      all_goals
        go_wp2_with fail
        go_ret
        exact ⟨by simp, grownBy_refl _ none⟩
    · have ei : i = L := by omega
      subst ei
      have hnl : ¬ (i : Int) < (i : Int) := by omega
      cases em with
      | true =>
        go_wp2_with fail
        go_ret
        exact ⟨by simp, grownBy_refl _ none⟩
      | false =>
        go_wp2_with fail
        refine (HVA.out _).mono ?_
        rintro e w1 ⟨rfl, hg⟩
        go_wp2_with fail
        go_ret
        exact ⟨⟨_, rfl⟩, hg⟩
/-- An entry whose flags lie in new memory. -/
def EnNew (w' : World) (b0 : Nat) (e : En) : Prop := EnAt w' e ∧ ∀ b, b < b0 → Off e.F e.flags.length b

/-- What ref12.entry answers. -/
def EnRes (w : World) (e : Ending) (w' : World) : Prop :=
  w.grownBy w' none ∧ ∃ (en : En) (ok : Bool), e = .returned (.tuple #[en.val, .bool ok]) ∧ (ok = true → EnNew w' w.heap.size en)

theorem load_entry {u : World} {k : Nat} {s : ByteArray} {F : Option Addr} {n c : Nat} {fz : Nat × Nat} (h : u.heap[k]? = some (.cells #[.string s, .slice F n c] 25 fz)) :
    (loadVar 25 ⟨k, 0, none⟩).run Tryd.prog u = .ok (.agg #[.string s, .slice F n c]) u := by
  have c0 := cell_of_heap h 0
  have c1 := cell_of_heap h 1
  go_simp

theorem en_done {w' : World} {E b0 n c : Nat} {cur : Wd} {F : Option Addr} {fs : List Int} (h : w'.ownsRow (E + 1) 3 1 (.slice F n c) n (intCells fs)) (hn : fs.length = n) (hb : b0 ≤ E) (hl : cur.length ≤ 100000) (hf : n ≤ 100000) : EnNew w' b0 ⟨cur, F, c, fs⟩ := by
  subst hn
  refine ⟨⟨Sl.of_own h (by intro x hx; obtain ⟨d, _, rfl⟩ := List.mem_map.1 hx; rfl), hl, hf⟩, fun b hb2 h0 a ha => ?_⟩
  obtain ⟨q, cap, e, _, hq, _⟩ := own_form h h0
  cases e
  cases ha
  show q ≠ b
  omega

theorem en_res {w u : World} {cur : Wd} {F : Option Addr} {n c : Nat} {fs : List Int} {b : Bool} (hg : w.grownBy u.drew none) (hn : fs.length = n) (h : EnNew u w.heap.size ⟨cur, F, c, fs⟩) : EnRes w (.returned (.tuple #[.agg #[.string ⟨cur.toArray⟩, .slice F n c], .bool b])) u.drew := by
  subst hn
  exact ⟨hg, ⟨cur, F, c, fs⟩, b, rfl, fun _ => ⟨h.1.kept (grownBy_drew (grownBy_refl u none)), h.2⟩⟩

/-- The state of entry's loop over the flags. -/
def RelEn (w1 : World) (E L : Nat) (cur : Wd) (iv : Value) (wr : World) : Prop :=
  ∃ (i n c : Nat) (F : Option Addr) (fs : List Int), iv = .int .i64 (i : Int) ∧ i ≤ L + 1 ∧ n ≤ i ∧ fs.length = n ∧ n ≤ L ∧
    wr.heap[E]? = some (.cells #[.string ⟨cur.toArray⟩, .slice F n c] 25 (0, 0)) ∧ wr.ownsRow (E + 1) 3 1 (.slice F n c) n (intCells fs) ∧ w1.grownBy wr none

set_option maxRecDepth 100000 in
set_option maxHeartbeats 4000000 in
theorem entry_walk (s : Wd) (w : World) (hl : s.length ≤ 100000) : Calls Tryd.prog 31 #[.string ⟨s.toArray⟩] w (EnRes w) := by
  obtain ⟨ki, hk, hx0, hx1, hx2⟩ := info_parts int_info
  have hsz := size_wd s
  have hfl : ∀ i u, Calls Tryd.prog 34 #[.string ((⟨s.toArray⟩ : ByteArray).extract i (i + 1))] u fun e w' => e = .returned (.int .i64 (flagF ((s.take (i + 1)).drop i))) ∧ w' = u := fun i u => by rw [slice_wd]; exact flag_walk _ u
  have hgb := fun (i : Nat) (b : UInt8) (h : s[i]? = some b) => get_byte h
  obtain ⟨L, hL⟩ : ∃ L, s.length = L := ⟨_, rfl⟩
  rw [hL] at hsz hl
  have hal := World.grownBy_alloc w (.cells #[.string ⟨#[]⟩, .slice none 0 0] 25) none
  have hbl := heap_alloc_new w (.cells #[.string ⟨#[]⟩, .slice none 0 0] 25 (0, 0))
  have HAL := Lib.hid hal
  have HBL := Lib.hid hbl
  have HFL := Lib.hid hfl
  have HGB := Lib.hid hgb
  have HL := Lib.hid hL
  clear hal hbl hfl hgb hL
  obtain ⟨wa, hwa⟩ : ∃ wa, w.alloc (.cells #[.string ⟨#[]⟩, .slice none 0 0] 25) = wa := ⟨_, rfl⟩
  go_enter Tryd.func31, Tryd.ntmps31
  go_wp2_with fail
  go_loopw [4] (fun iv wr => ∃ i : Nat, i ≤ L ∧ iv = .int .i64 (i : Int) ∧ wr = wa) (fun iv _ => L - (RowKit.intOf iv).toNat)
  case atStart => exact ⟨0, Nat.zero_le _, rfl, by first | exact hwa | trivial⟩
  case round =>
    obtain ⟨k, hkn, rfl, hwr⟩ := hrel
    subst hwr
    have HB := Lib.hid (hwa ▸ HBL.out)
    have HG := Lib.hid (hwa ▸ HAL.out)
    clear hwa
    have HSZ := Lib.hid (heap_lt HB.out)
    go_upto_region 2 with (fail)
    go_cut [18] (fun v wx => BoolCut (fun b => b = true → k < L) wr v wx)
    case first =>
      rcases Nat.lt_or_ge k L with hlt | hge
      · have hlti : (k : Int) < (L : Int) := by omega
        obtain ⟨b, hb⟩ : ∃ b, s[k]? = some b := ⟨_, List.getElem?_eq_getElem (by rw [HL.out]; exact hlt)⟩
        have hx := HGB.out k b hb
        clear hb
        have hbl := UInt8.toNat_lt b
        obtain ⟨e1, he1⟩ : ∃ v, ((b.toNat : Int) != 47) = v := ⟨_, rfl⟩
        go_wp2_with fail
        go_meet
        exact ⟨e1, rfl, rfl, fun _ => hlt⟩
      · have ek : k = L := by omega
        subst ek
        have hnl : ¬ (k : Int) < (k : Int) := by omega
        go_wp2_with fail
        go_meet
        exact ⟨false, rfl, rfl, nofun⟩
    case rest =>
      obtain ⟨b, rfl, ewc, hbk⟩ := hcut
      have ewc := ewc.symm
      subst ewc
      cases b with
      | true =>
        have hkl := hbk rfl
        go_wp2_with fail
        go_roundw
        case rel => exact ⟨k + 1, by omega, by go_num, by first | rfl | trivial⟩
        case measure => simp [RowKit.intOf]; omega
      | false =>
        clear hbk
        obtain ⟨wb, hwb⟩ : ∃ wb, wb = wr := ⟨_, rfl⟩
        subst hwb
        have hex : (⟨s.toArray⟩ : ByteArray).extract 0 k = ⟨((s.take k).drop 0).toArray⟩ := slice_wd s 0 k
        obtain ⟨cur, hcu⟩ : ∃ c, (s.take k).drop 0 = c := ⟨_, rfl⟩
        have hcl : cur.length ≤ L := by rw [← hcu, List.length_drop, List.length_take]; omega
        rw [hcu] at hex
        clear hcu
        have hkLi : (k : Int) ≤ (L : Int) := by omega
        go_wp2_with fail
        refine (word12_walk cur _ (by omega)).mono ?_
        rintro e w2 ⟨⟨ok, rfl⟩, hg2⟩
        have hal := World.grownBy_alloc wb (.cells #[.string ⟨cur.toArray⟩, .slice none 0 0] 25) none
        have hbl := heap_alloc_new wb (.cells #[.string ⟨cur.toArray⟩, .slice none 0 0] 25 (0, 0))
        have HE2 := Lib.hid (grownBy_heap hg2 hbl nofun)
        have HG2 := Lib.hid (grownBy_trans hal hg2 nofun)
        clear hal hbl hg2
        cases ok with
        | false =>
          have hb2 := grownBy_heap HG2.out HB.out nofun
          have hg3 := grownBy_trans HG.out HG2.out nofun
          have gz0 := frozen_of_heap hb2 0
          have fz0 := cell_of_heap hb2 0
          have gz1 := frozen_of_heap hb2 1
          have fz1 := cell_of_heap hb2 1
          go_wp2_with fail
          have hset := set_two hb2 (.string ⟨#[]⟩) (.slice none 0 0)
          have hgr := grown_set2 hg3 w.heap.size (.inr (Nat.le_refl _)) (.string ⟨#[]⟩) (.slice none 0 0)
          refine bodyPost_ret (results_cell_tmp rfl rfl (load_entry hset) rfl) rfl ?_
          exact ⟨hgr, ⟨[], none, 0, []⟩, false, rfl, nofun⟩
        | true =>
          go_wp2_with fail
          go_loopw [6] (fun iv wr => RelEn wb wb.heap.size L cur iv wr) (fun iv _ => L + 1 - (RowKit.intOf iv).toNat)
          case atStart => exact ⟨k + 1, 0, 0, none, [], by go_num, by omega, by omega, rfl, by omega, HE2.out, World.ownsRow_nil _ _ _ _, HG2.out⟩
          case round =>
            obtain ⟨i, n, c, F, fs, rfl, hiL, hni, hfn, hnL, hcell, hown, hgr⟩ := hrel
            have HC := Lib.hid hcell
            have HO := Lib.hid hown
            have HGW := Lib.hid hgr
            have HFN := Lib.hid hfn
            clear hcell hown hgr hfn
            obtain ⟨wo, hwo⟩ : ∃ wo, wo = wr := ⟨_, rfl⟩
            subst hwo
            have hbo := grownBy_heap HGW.out HB.out nofun
            have hgo := grownBy_trans HG.out HGW.out nofun
            have HBO := Lib.hid hbo
            have HGO := Lib.hid hgo
            clear hbo hgo
            have c0 := cell_of_heap HC.out 0
            have c1 := cell_of_heap HC.out 1
            rcases Nat.lt_or_ge i L with hlt | hge
            · have hlti : (i : Int) < (L : Int) := by omega
              go_wp2_with fail
              refine (HFL.out i _).mono ?_
              rintro e u ⟨rfl, eu⟩
              have eu := eu.symm
              subst eu
              obtain ⟨f0, hf0⟩ : ∃ f, flagF ((s.take (i + 1)).drop i) = f := ⟨_, rfl⟩
              rw [hf0]
              clear hf0
              go_wp2_with fail
              go_loopw [7, 8] (fun fv jv wr => ∃ (f : Int) (j : Nat), j ≤ n ∧ fv = .int .i64 f ∧ jv = .int .i64 (j : Int) ∧ wr = wo) (fun _ jv _ => n - (RowKit.intOf jv).toNat)
              case atStart => exact ⟨f0, 0, Nat.zero_le _, rfl, rfl, by first | rfl | trivial⟩
              case round =>
                obtain ⟨f, j, hjn, rfl, rfl, ewy⟩ := hrel
                subst ewy
                rcases Nat.lt_or_ge j n with hjl | hjl
                · have hjli : (j : Int) < (n : Int) := by omega
                  have hs := Sl.of_own HO.out (by intro x hx; obtain ⟨d, _, rfl⟩ := List.mem_map.1 hx; rfl)
                  rw [← HFN.out] at hs
                  obtain ⟨v, hv⟩ : ∃ x, fs[j]? = some x := ⟨_, List.getElem?_eq_getElem (by rw [HFN.out]; exact hjl)⟩
                  obtain ⟨q, o, eA, cj⟩ := int_at hs hv
                  subst eA
                  clear hs hv
                  obtain ⟨e1, he1⟩ : ∃ x, (v == f) = x := ⟨_, rfl⟩
                  cases e1
                  all_goals
                    go_wp2_with fail
                    go_roundw
                    case rel => exact ⟨_, j + 1, by omega, rfl, by go_num, by first | rfl | trivial⟩
                    case measure => simp [RowKit.intOf]; omega
                · have ej : j = n := by omega
                  subst ej
                  have hnl : ¬ (j : Int) < (j : Int) := by omega
                  by_cases hf0 : f = 0
                  · subst hf0
                    have gz0 := frozen_of_heap HBO.out 0
                    have fz0 := cell_of_heap HBO.out 0
                    have gz1 := frozen_of_heap HBO.out 1
                    have fz1 := cell_of_heap HBO.out 1
                    go_wp2_with fail
                    have hset := set_two HBO.out (.string ⟨#[]⟩) (.slice none 0 0)
                    have hgr := grown_set2 HGO.out w.heap.size (.inr (Nat.le_refl _)) (.string ⟨#[]⟩) (.slice none 0 0)
                    refine bodyPost_ret (results_cell_tmp rfl rfl (load_entry hset) rfl) rfl ?_
                    exact ⟨hgr, ⟨[], none, 0, []⟩, false, rfl, nofun⟩
                  · have d0 : (f == 0) = false := by rw [beq_eq_false_iff_ne]; exact hf0
                    have hal := World.grownBy_alloc wr (.cells #[.int .i64 f] 3) none
                    have hoa := ownsRow_kept HO.out hal (own_none _)
                    have hca := grownBy_heap hal HC.out nofun
                    have hga := grownBy_trans HGW.out hal nofun
                    have hsl := Sl.of_own (World.ownsRow_lit (base := 0) (size := 1) (e := 3) wr #[.int .i64 f] 1 (Nat.zero_le _) (by decide) rfl) (by intro x hx; simp at hx; subst hx; rfl)
                    have hab := heap_lt HC.out
                    have HOA := Lib.hid hoa
                    have HCA := Lib.hid hca
                    have HGA := Lib.hid hga
                    have HSL := Lib.hid hsl
                    have HAB := Lib.hid hab
                    clear hal hoa hca hga hsl hab
                    go_wp2_with (at_builtin; refine wpList_append_sl _ rfl (.tmp 62) (.tmp 64) 23 rfl (wb.heap.size + 1) 3 ki _ 1 8 Tryd.underlying23 hk hx0 hx1 hx2 rfl (by decide) (.slice F j c) j _ rfl HOA.out (some ⟨wr.heap.size, 0, none⟩) 1 1 [.int .i64 f] rfl HSL.out (by unfold maxLen; omega) (by omega) (by have := HAB.out; simp; omega) ?_)
                    rintro v' w6 ⟨hown', hg', hat⟩
                    obtain ⟨q2, c2, rfl, _⟩ := own_form hown' (by omega)
                    have hpl := HOA.out.lt
                    have hcw := grownBy_heap hg' HCA.out (fun e => by have := (hpl _ e).1; omega)
                    have hgw' := grownBy_trans HGA.out hg' (fun l hl => .inr (by have := (hpl l hl).1; omega))
                    have hst := heap_setCell hcw 1 (.slice (some ⟨q2, 0, none⟩) (j + 1) c2)
                    have hsg := grownBy_setCell (grownBy_refl w6 (some wb.heap.size)) wb.heap.size 1 (.slice (some ⟨q2, 0, none⟩) (j + 1) c2) (.inl rfl)
                    have hsw := grownBy_setCell hgw' wb.heap.size 1 (.slice (some ⟨q2, 0, none⟩) (j + 1) c2) (.inr (Nat.le_refl _))
                    have hon := ownsRow_kept hown' hsg (.inr (fun e => by have := (hown'.lt _ e).1; omega))
                    rw [← intCells_snoc] at hon
                    have hfl := len_snoc HFN.out f
                    have g1 := frozen_of_heap hcw 1
                    have f1 := cell_of_heap hcw 1
                    have HST := Lib.hid hst
                    have HON := Lib.hid hon
                    have HSW := Lib.hid hsw
                    have HFL2 := Lib.hid hfl
                    clear hown' hg' hat hpl hcw hgw' hst hsg hsw hon hfl
                    go_wp2_with fail
                    go_roundw
                    case rel => exact ⟨i + 1, j + 1, c2, some ⟨q2, 0, none⟩, fs ++ [f], by go_num, by omega, by omega, HFL2.out, by omega, HST.out, HON.out, HSW.out⟩
                    case measure => simp [RowKit.intOf]; omega
            · have hnl : ¬ (i : Int) < (L : Int) := by omega
              have hqn : wb.heap.size ≠ w.heap.size := by have := HSZ.out; omega
              have hd0 : wo.drew.cell? ⟨wb.heap.size, 0, none⟩ = some (.string ⟨cur.toArray⟩) := c0
              have hd1 : wo.drew.cell? ⟨wb.heap.size, 1, none⟩ = some (.slice F n c) := c1
              have hb4 := HBO.out
              have hg4 := HGO.out
              have hod := HO.out
              have gz0 := frozen_of_heap hb4 0
              have fz0 := cell_of_heap hb4 0
              have gz1 := frozen_of_heap hb4 1
              have fz1 := cell_of_heap hb4 1
              have hsz0 := HSZ.out
              obtain ⟨e2, he2⟩ : ∃ v, decide (0 < n) = v := ⟨_, rfl⟩
              have he2' : decide ((0 : Int) < (n : Int)) = e2 := by rw [← he2]; exact decide_eq_decide.2 (by omega)
              by_cases hkL : k = L
              · subst hkL
                have hset := set_two hb4 (.string ⟨cur.toArray⟩) (.slice F n c)
                have hgr := grown_set2 hg4 w.heap.size (.inr (Nat.le_refl _)) (.string ⟨cur.toArray⟩) (.slice F n c)
                have hg5 := grown_set2 (grownBy_refl wo (some w.heap.size)) w.heap.size (.inl rfl) (.string ⟨cur.toArray⟩) (.slice F n c)
                have hs5 := And.intro (hg5.cell c0 (fun e => hqn (Option.some.inj e))) (hg5.cell c1 (fun e => hqn (Option.some.inj e)))
                have hen : EnNew ((wo.setCell ⟨w.heap.size, 0, none⟩ (.string ⟨cur.toArray⟩)).setCell ⟨w.heap.size, 1, none⟩ (.slice F n c)) w.heap.size ⟨cur, F, c, fs⟩ := en_done (ownsRow_kept hod hg5 (.inr (fun e => by have := (hod.lt _ e).1; omega))) HFN.out (by omega) (by omega) (by omega)
                have HSET2 := Lib.hid hset
                have HGR2 := Lib.hid hgr
                have HS5 := Lib.hid hs5
                have HEN := Lib.hid hen
                clear hset hgr hg5 hs5 hen hg4 hb4 hod
                go_wp2_with fail
                refine region_hw (fun u => u.cell? ⟨wb.heap.size, 0, none⟩ = some (.string ⟨cur.toArray⟩) ∧ u.cell? ⟨wb.heap.size, 1, none⟩ = some (.slice F n c)) (by kernel_rfl) ⟨hd0, hd1⟩ (fun hHeld => ?_)
                refine hw_take 0 (v := ?_) rfl (by kernel_rfl) (by kernel_rfl) (by kernel_rfl) (fun _ _ _ h => h) (by rfl) (fun u hu => ?_) (by assumption) ?_
                rotate_left
                focus ((try dsimp only at hu); obtain ⟨u0, u1⟩ := hu; go_simp; (try with_reducible rfl); done)
                try simp only [Act.put]
                refine hw_take 1 (v := ?_) rfl (by kernel_rfl) (by kernel_rfl) (by kernel_rfl) (fun _ _ _ h => h) (by rfl) (fun u hu => ?_) (by assumption) ?_
                rotate_left
                focus ((try dsimp only at hu); obtain ⟨u0, u1⟩ := hu; go_simp; (try with_reducible rfl); done)
                try simp only [Act.put]
                refine hw_take 2 (v := ?_) rfl (by kernel_rfl) (by kernel_rfl) (by kernel_rfl) (fun _ _ _ h => h) (by rfl) (fun u hu => ?_) (by assumption) ?_
                rotate_left
                focus ((try dsimp only at hu); obtain ⟨u0, u1⟩ := hu; go_simp; (try with_reducible rfl); done)
                try simp only [Act.put]
                refine hw_take 3 (v := ?_) rfl (by kernel_rfl) (by kernel_rfl) (by kernel_rfl) (fun _ _ _ h => h) (by rfl) (fun u hu => ?_) (by assumption) ?_
                rotate_left
                focus ((try dsimp only at hu); obtain ⟨u0, u1⟩ := hu; go_simp; (try with_reducible rfl); done)
                try simp only [Act.put]
                refine hw_take 4 (v := ?_) rfl (by kernel_rfl) (by kernel_rfl) (by kernel_rfl) (fun _ _ _ h => h) (by rfl) (fun u hu => ?_) (by assumption) ?_
                rotate_left
                focus ((try dsimp only at hu); obtain ⟨u0, u1⟩ := hu; go_simp; (try with_reducible rfl); done)
                try simp only [Act.put]
                refine hw_take 5 (v := ?_) rfl (by kernel_rfl) (by kernel_rfl) (by kernel_rfl) (fun _ _ _ h => h) (by rfl) (fun u hu => ?_) (by assumption) ?_
                rotate_left
                focus ((try dsimp only at hu); obtain ⟨u0, u1⟩ := hu; go_simp; (try with_reducible rfl); done)
                try simp only [Act.put]
                refine hw_skip 6 rfl (by kernel_rfl) (by kernel_rfl) (by kernel_rfl) (fun _ _ _ h => h) (by kernel_rfl) (by assumption) ?_
                try simp only [Act.put]
                refine hw_skip 7 rfl (by kernel_rfl) (by kernel_rfl) (by kernel_rfl) (fun _ _ _ h => h) (by kernel_rfl) (by assumption) ?_
                try simp only [Act.put]
                refine hw_skip 8 rfl (by kernel_rfl) (by kernel_rfl) (by kernel_rfl) (fun _ _ _ h => h) (by kernel_rfl) (by assumption) ?_
                try simp only [Act.put]
                refine hw_skip 9 rfl (by kernel_rfl) (by kernel_rfl) (by kernel_rfl) (fun _ _ _ h => h) (by kernel_rfl) (by assumption) ?_
                try simp only [Act.put]
                refine hw_take 10 (v := ?_) rfl (by kernel_rfl) (by kernel_rfl) (by kernel_rfl) (fun _ _ _ h => h) (by rfl) (fun u hu => ?_) (by assumption) ?_
                rotate_left
                focus ((try dsimp only at hu); obtain ⟨u0, u1⟩ := hu; go_simp; (try with_reducible rfl); done)
                try simp only [Act.put]
                refine hw_one 11 (by kernel_rfl) rfl (fun K hK => ?_)
                go_simp
                refine hK.out _ _ (by exact HS5.out) (fun hHeld11 => ?_)
                clear hK K
                try simp only [Act.put]
                refine hw_one 12 (by kernel_rfl) rfl (fun K hK => ?_)
                go_simp
                refine hK.out _ _ (by exact HS5.out) (fun hHeld12 => ?_)
                clear hK K
                try simp only [Act.put]
                refine hw_done (by kernel_rfl) ?_
                go_wp2_with fail
                refine bodyPost_ret (results_cell_tmp rfl rfl (load_entry (u := World.drew _) HSET2.out) rfl) rfl ?_
                have hgd := grownBy_drew HGR2.out
                exact en_res hgd HFN.out HEN.out
              · have hk1 : ((k : Int) == (L : Int)) = false := by rw [beq_eq_false_iff_ne]; omega
                have hk2 : (k == L) = false := by rw [beq_eq_false_iff_ne]; exact hkL
                have hset := set_two hb4 (.string ⟨cur.toArray⟩) (.slice F n c)
                have hgr := grown_set2 hg4 w.heap.size (.inr (Nat.le_refl _)) (.string ⟨cur.toArray⟩) (.slice F n c)
                have hg5 := grown_set2 (grownBy_refl wo (some w.heap.size)) w.heap.size (.inl rfl) (.string ⟨cur.toArray⟩) (.slice F n c)
                have hs5 := And.intro (hg5.cell c0 (fun e => hqn (Option.some.inj e))) (hg5.cell c1 (fun e => hqn (Option.some.inj e)))
                have hen : EnNew ((wo.setCell ⟨w.heap.size, 0, none⟩ (.string ⟨cur.toArray⟩)).setCell ⟨w.heap.size, 1, none⟩ (.slice F n c)) w.heap.size ⟨cur, F, c, fs⟩ := en_done (ownsRow_kept hod hg5 (.inr (fun e => by have := (hod.lt _ e).1; omega))) HFN.out (by omega) (by omega) (by omega)
                have HSET2 := Lib.hid hset
                have HGR2 := Lib.hid hgr
                have HS5 := Lib.hid hs5
                have HEN := Lib.hid hen
                clear hset hgr hg5 hs5 hen hg4 hb4 hod
                go_wp2_with fail
                refine region_hw (fun u => u.cell? ⟨wb.heap.size, 0, none⟩ = some (.string ⟨cur.toArray⟩) ∧ u.cell? ⟨wb.heap.size, 1, none⟩ = some (.slice F n c)) (by kernel_rfl) ⟨hd0, hd1⟩ (fun hHeld => ?_)
                refine hw_take 0 (v := ?_) rfl (by kernel_rfl) (by kernel_rfl) (by kernel_rfl) (fun _ _ _ h => h) (by rfl) (fun u hu => ?_) (by assumption) ?_
                rotate_left
                focus ((try dsimp only at hu); obtain ⟨u0, u1⟩ := hu; go_simp; (try with_reducible rfl); done)
                try simp only [Act.put]
                refine hw_take 1 (v := ?_) rfl (by kernel_rfl) (by kernel_rfl) (by kernel_rfl) (fun _ _ _ h => h) (by rfl) (fun u hu => ?_) (by assumption) ?_
                rotate_left
                focus ((try dsimp only at hu); obtain ⟨u0, u1⟩ := hu; go_simp; (try with_reducible rfl); done)
                try simp only [Act.put]
                refine hw_take 2 (v := ?_) rfl (by kernel_rfl) (by kernel_rfl) (by kernel_rfl) (fun _ _ _ h => h) (by rfl) (fun u hu => ?_) (by assumption) ?_
                rotate_left
                focus ((try dsimp only at hu); obtain ⟨u0, u1⟩ := hu; go_simp; (try with_reducible rfl); done)
                try simp only [Act.put]
                refine hw_take 3 (v := ?_) rfl (by kernel_rfl) (by kernel_rfl) (by kernel_rfl) (fun _ _ _ h => h) (by rfl) (fun u hu => ?_) (by assumption) ?_
                rotate_left
                focus ((try dsimp only at hu); obtain ⟨u0, u1⟩ := hu; go_simp; (try with_reducible rfl); done)
                try simp only [Act.put]
                refine hw_take 4 (v := ?_) rfl (by kernel_rfl) (by kernel_rfl) (by kernel_rfl) (fun _ _ _ h => h) (by rfl) (fun u hu => ?_) (by assumption) ?_
                rotate_left
                focus ((try dsimp only at hu); obtain ⟨u0, u1⟩ := hu; go_simp; (try with_reducible rfl); done)
                try simp only [Act.put]
                refine hw_take 5 (v := ?_) rfl (by kernel_rfl) (by kernel_rfl) (by kernel_rfl) (fun _ _ _ h => h) (by rfl) (fun u hu => ?_) (by assumption) ?_
                rotate_left
                focus ((try dsimp only at hu); obtain ⟨u0, u1⟩ := hu; go_simp; (try with_reducible rfl); done)
                try simp only [Act.put]
                refine hw_take 6 (v := ?_) rfl (by kernel_rfl) (by kernel_rfl) (by kernel_rfl) (fun _ _ _ h => h) (by kernel_rfl) (fun u hu => ?_) (by assumption) ?_
                rotate_left
                focus ((try dsimp only at hu); obtain ⟨u0, u1⟩ := hu; go_simp; (try with_reducible rfl); done)
                try simp only [Act.put]
                refine hw_take 7 (v := ?_) rfl (by kernel_rfl) (by kernel_rfl) (by kernel_rfl) (fun _ _ _ h => h) (by kernel_rfl) (fun u hu => ?_) (by assumption) ?_
                rotate_left
                focus ((try dsimp only at hu); obtain ⟨u0, u1⟩ := hu; go_simp; (try with_reducible rfl); done)
                try simp only [Act.put]
                refine hw_take 8 (v := ?_) rfl (by kernel_rfl) (by kernel_rfl) (by kernel_rfl) (fun _ _ _ h => h) (by kernel_rfl) (fun u hu => ?_) (by assumption) ?_
                rotate_left
                focus ((try dsimp only at hu); obtain ⟨u0, u1⟩ := hu; go_simp; (try with_reducible rfl); done)
                try simp only [Act.put]
                refine hw_take 9 (v := ?_) rfl (by kernel_rfl) (by kernel_rfl) (by kernel_rfl) (fun _ _ _ h => h) (by kernel_rfl) (fun u hu => ?_) (by assumption) ?_
                rotate_left
                focus ((try dsimp only at hu); obtain ⟨u0, u1⟩ := hu; go_simp; (try with_reducible rfl); done)
                try simp only [Act.put]
                refine hw_take 10 (v := ?_) rfl (by kernel_rfl) (by kernel_rfl) (by kernel_rfl) (fun _ _ _ h => h) (by rfl) (fun u hu => ?_) (by assumption) ?_
                rotate_left
                focus ((try dsimp only at hu); obtain ⟨u0, u1⟩ := hu; go_simp; (try with_reducible rfl); done)
                try simp only [Act.put]
                refine hw_one 11 (by kernel_rfl) rfl (fun K hK => ?_)
                go_simp
                refine hK.out _ _ (by exact HS5.out) (fun hHeld11 => ?_)
                clear hK K
                try simp only [Act.put]
                refine hw_one 12 (by kernel_rfl) rfl (fun K hK => ?_)
                go_simp
                refine hK.out _ _ (by exact HS5.out) (fun hHeld12 => ?_)
                clear hK K
                try simp only [Act.put]
                refine hw_done (by kernel_rfl) ?_
                go_wp2_with fail
                refine bodyPost_ret (results_cell_tmp rfl rfl (load_entry (u := World.drew _) HSET2.out) rfl) rfl ?_
                have hgd := grownBy_drew HGR2.out
                exact en_res hgd HFN.out HEN.out
end Go.Proofs.YtlbbjcggjmaehaaDoor

namespace Go.Proofs.YtlbbjcggjmaehaaDoor
open Go Go.RowKit Go.Maps

/-- Entries under way. -/
structure R12 (b0 : Nat) (wr : World) (v : Value) (n : Nat) (es : List En) : Prop where
  len : es.length = n
  own : wr.ownsRow b0 25 2 v n (enCells es)
  ats : ∀ e ∈ es, EnAt wr e
  offs : ∀ e ∈ es, ∀ b, v.ownBlock = some b → Off e.F e.flags.length b

theorem EnAt.keptR {w w' : World} {e : En} {o : Option Nat} (h : EnAt w e) (g : w.grownBy w' o) (ho : ∀ b, o = some b → Off e.F e.flags.length b) : EnAt w' e := ⟨h.1.kept g ho, h.2⟩

theorem R12.grow {b0 : Nat} {wr u : World} {v : Value} {n : Nat} {es : List En} (h : R12 b0 wr v n es) (g : wr.grownBy u none) : R12 b0 u v n es :=
  { h with own := ownsRow_kept h.own g (own_none _), ats := fun e he => (h.ats e he).kept g }

theorem results_tmp3 {fn : Func} {p q r : Tmp} (h : fn.results = #[.tmp p, .tmp q, .tmp r]) {tmps : Array Value} {P : Program} {w : World} {u v x : Value} (hp : tmps.getD p undef = u) (hq : tmps.getD q undef = v) (hr : tmps.getD r undef = x) : (results fn tmps).run P w = .ok (.tuple #[u, v, x]) w := by
  have hp' : tmps[p]?.getD undef = u := by rw [← hp]; simp [Array.getD_eq_getD_getElem?]
  have hq' : tmps[q]?.getD undef = v := by rw [← hq]; simp [Array.getD_eq_getD_getElem?]
  have hr' : tmps[r]?.getD undef = x := by rw [← hr]; simp [Array.getD_eq_getD_getElem?]
  simp only [results, h]
  simp [hp', hq', hr', Result.andThen]

theorem R12.push {b0 : Nat} {u w' : World} {v v' : Value} {n : Nat} {es : List En} (h : R12 b0 u v n es) {x : En} (hx : EnAt u x) (ho : ∀ b, v.ownBlock = some b → Off x.F x.flags.length b)
    (ha : Appended b0 25 2 v (n + 1) (enCells es ++ x.row) u v' w') : R12 b0 w' v' (n + 1) (es ++ [x]) := by
  obtain ⟨hown, hg, hat⟩ := ha
  have hall : ∀ y ∈ es ++ [x], EnAt u y ∧ ∀ b, v.ownBlock = some b → Off y.F y.flags.length b := by
    intro y hy
    rcases List.mem_append.1 hy with hy | hy
    · exact ⟨h.ats y hy, h.offs y hy⟩
    · rw [List.mem_singleton.1 hy]; exact ⟨hx, ho⟩
  refine ⟨len_snoc h.len x, by rw [enCells_snoc]; exact hown, fun y hy => (hall y hy).1.keptR hg (hall y hy).2, fun y hy b hb => ?_⟩
  rcases hat with e | e
  · exact (hall y hy).2 b (by rw [← e]; exact hb)
  · exact (hall y hy).1.1.off_new (by decide) (Nat.le_of_eq (Option.some.inj (e.symm.trans hb)))

/-- What ref12.Parse answers. -/
def P12Res (k : Nat) (w : World) (e : Ending) (w' : World) : Prop :=
  w.grownBy w' none ∧ ∃ (A : Option Addr) (n c : Nat) (es : List En) (line err : Int), e = .returned (.tuple #[.slice A n c, .int .i64 line, .int .i64 err]) ∧ es.length = n ∧ n ≤ k ∧ n ≤ c ∧ EnsAt w' A es

theorem P12Res.nothing {k : Nat} {w w' : World} (h : w.grownBy w' none) {line err : Int} : P12Res k w (.returned (.tuple #[.slice none 0 0, .int .i64 line, .int .i64 err])) w' :=
  ⟨h, none, 0, 0, [], line, err, rfl, rfl, Nat.zero_le _, Nat.le_refl _, Sl.nil _ _ _, by simp⟩

theorem R12.done {k b0 : Nat} {w wr : World} {A : Option Addr} {n c : Nat} {es : List En} (h : R12 b0 wr (.slice A n c) n es) (hg : w.grownBy wr none) (hk : n ≤ k) {line err : Int} : P12Res k w (.returned (.tuple #[.slice A n c, .int .i64 line, .int .i64 err])) wr := by
  obtain ⟨A', c', e, hc⟩ := own_slice2 h.own
  cases e
  have := Sl.of_own h.own (enCells_one _)
  refine ⟨hg, A, n, c, es, line, err, rfl, h.len, hk, hc, ?_, h.ats⟩
  rw [h.len]; exact this

def Rel12 (w1 : World) (ln : Nat) (mv bv iv : Value) (wr : World) : Prop :=
  ∃ (i bad n c : Nat) (A : Option Addr) (es : List En), iv = .int .i64 (i : Int) ∧ i ≤ ln ∧ bv = .int .i64 (bad : Int) ∧ bad ≤ ln ∧ mv = .slice A n c ∧ n ≤ i ∧ R12 w1.heap.size wr (.slice A n c) n es ∧ w1.grownBy wr none

set_option maxRecDepth 100000 in
set_option maxHeartbeats 4000000 in
theorem parse12_walk (s : Wd) (w : World) (hl : s.length ≤ 100000) : Calls Tryd.prog 15 #[.string ⟨s.toArray⟩] w (P12Res (s.count 10 + 1) w) := by
  obtain ⟨i0, hi, hz0, hz1, hz2⟩ := info_parts entry_info
  have hsz := size_wd s
  obtain ⟨L, hL⟩ : ∃ L, s.length = L := ⟨_, rfl⟩
  rw [hL] at hsz
  rcases Nat.lt_or_ge 65536 L with hbig | hbig
  · have d1 : decide ((65536 : Int) < (L : Int)) = true := decide_eq_true (by omega)
    go_enter Tryd.func15, Tryd.ntmps15
    go_wp2_with fail
    refine bodyPost_ret (results_tmp3 rfl rfl rfl rfl) rfl ?_
    exact P12Res.nothing (grownBy_refl _ none)
  · have d1 : decide ((65536 : Int) < (L : Int)) = false := decide_eq_false (by omega)
    go_enter Tryd.func15, Tryd.ntmps15
    go_wp2_with fail
    refine (lines_walk s _ hl).mono ?_
    rintro e w1 ⟨LA, ln, lc, W, rfl, hWn, hown, hlo, hg1, _⟩
    have hlnk : ln ≤ s.count 10 + 1 := by rw [← hWn]; exact hlo.1
    have hln : ln ≤ 100001 := by have := List.count_le_length (a := (10 : UInt8)) (l := s); omega
    have hsl := Sl.of_own hown (strCells_one' _)
    have HW := Lib.hid hlo.2
    have HWN := Lib.hid hWn
    have HSL := Lib.hid hsl
    have HG1 := Lib.hid hg1
    have HK := Lib.hid hlnk
    clear hlo hWn hsl hg1 hown hlnk
    go_wp2_with fail
    go_loopw [6, 7, 8] (fun mv bv iv wr => Rel12 w1 ln mv bv iv wr) (fun _ _ iv _ => ln - (RowKit.intOf iv).toNat)
    case atStart => exact ⟨0, 0, 0, 0, none, [], rfl, Nat.zero_le _, rfl, Nat.zero_le _, rfl, Nat.le_refl _, ⟨rfl, World.ownsRow_nil _ _ _ _, by simp, by simp⟩, grownBy_refl _ none⟩
    case round =>
      obtain ⟨i, bad, n, c, A, es, rfl, hin, rfl, hbn, rfl, hni, hrow, hgr⟩ := hrel
      have HR := Lib.hid hrow
      have HGW := Lib.hid hgr
      have HGO := Lib.hid (grownBy_trans HG1.out hgr nofun)
      clear hrow hgr
      rcases Nat.lt_or_ge i ln with hlt | hge
      · have hlti : (i : Int) < (ln : Int) := by omega
        obtain ⟨x, hx⟩ : ∃ x, W[i]? = some x := ⟨_, List.getElem?_eq_getElem (by rw [HWN.out]; exact hlt)⟩
        have hxl : x.length ≤ 100000 := by have := HW.out x (List.mem_of_getElem? hx); omega
        obtain ⟨q, o, eA, hq⟩ := HSL.out.2.2 (by omega)
        have c0 : wr.cell? ⟨q, o + i, none⟩ = some (.string ⟨x.toArray⟩) := HGW.out.cell (hq i _ (by rw [strCells, List.getElem?_map, hx]; rfl)) nofun
        subst eA
        clear hq hx
        have C0 := Lib.hid c0
        go_upto_region 9 with (fail)
        go_cut [34] (fun v wx => BoolCut (fun _ => True) wr v wx)
        case first =>
          cases x with
          | nil =>
            have hxs : (⟨([] : Wd).toArray⟩ : ByteArray).toList.isEmpty = true := by rw [ByteArray.toList_eq]; rfl
            go_wp2_with fail
            go_meet
            exact ⟨_, rfl, rfl, trivial⟩
          | cons b t =>
            have hsz2 := size_wd (b :: t)
            have hgb := get_byte (s := b :: t) (i := 0) (b := b) rfl
            have hxe : (⟨(b :: t).toArray⟩ : ByteArray).toList.isEmpty = false := wd_full (by simp)
            have hbl := UInt8.toNat_lt b
            obtain ⟨S, hS⟩ : ∃ S, (⟨(b :: t).toArray⟩ : ByteArray) = S := ⟨_, rfl⟩
            rw [hS] at hsz2 hxe c0
            simp only [hS] at hgb
            have hp : (0 : Nat) < S.size := by rw [hsz2]; simp
            obtain ⟨e35, he35⟩ : ∃ v, ((b.toNat : Int) == 35) = v := ⟨_, rfl⟩
            go_wp2_with fail
            go_meet
            exact ⟨_, rfl, rfl, trivial⟩
        case rest =>
          obtain ⟨b, rfl, ewc, _⟩ := hcut
          have ewc := ewc.symm
          subst ewc
          cases b with
          | true =>
            go_wp2_with fail
            go_roundw
            case rel => exact ⟨i + 1, bad, n, c, A, es, by go_num, by omega, rfl, hbn, rfl, by omega, HR.out, HGW.out⟩
            case measure => simp [RowKit.intOf]; omega
          | false =>
            go_wp2_with fail
            refine (entry_walk x _ hxl).mono ?_
            rintro e w3 ⟨hg3, en, ok, rfl, hnew⟩
            simp only [En.val]
            have hal := World.grownBy_alloc w3 (.cells #[.string ⟨en.word.toArray⟩, .slice en.F en.flags.length en.cap] 25) none
            have hga := grownBy_trans hg3 hal nofun
            have hra := HR.out.grow hga
            have hgw := grownBy_trans HGW.out hga nofun
            have HRA := Lib.hid hra
            have HGA := Lib.hid hgw
            cases ok with
            | false =>
              clear hal hga hra hgw hnew hg3
              by_cases hb0 : bad = 0
              · subst hb0
                go_wp2_with fail
                go_roundw
                case rel => exact ⟨i + 1, i + 1, n, c, A, es, by go_num, by omega, by go_num, by omega, rfl, by omega, HRA.out, HGA.out⟩
                case measure => simp [RowKit.intOf]; omega
              · have d2 : ((bad : Int) == 0) = false := by rw [beq_eq_false_iff_ne]; omega
                go_wp2_with fail
                go_roundw
                case rel => exact ⟨i + 1, bad, n, c, A, es, by go_num, by omega, rfl, hbn, rfl, by omega, HRA.out, HGA.out⟩
                case measure => simp [RowKit.intOf]; omega
            | true =>
              obtain ⟨hen, hof⟩ := hnew rfl
              have hen4 := hen.kept hal
              have hbk := heap_alloc_new w3 (.cells #[.string ⟨en.word.toArray⟩, .slice en.F en.flags.length en.cap] 25 (0, 0))
              have hofv : ∀ b, (Value.slice A n c).ownBlock = some b → Off en.F en.flags.length b := fun b hb => hof b (HR.out.own.lt b hb).2
              have hab : w1.heap.size ≤ w3.heap.size := Nat.le_trans HGW.out.size hg3.size
              go_upto_region 14 with (fail)
              obtain ⟨w4, hw4⟩ : ∃ w4, w3.alloc (.cells #[.string ⟨en.word.toArray⟩, .slice en.F en.flags.length en.cap] 25) = w4 := ⟨_, rfl⟩
              have hs4 := hal.size
              rw [hw4] at hen4 hal hbk hra hgw hs4 ⊢
              have k0 := cell_of_heap hbk 0
              have k1 := cell_of_heap hbk 1
              have hal2 := World.grownBy_alloc w4 (.cells #[.string ⟨en.word.toArray⟩, .slice en.F en.flags.length en.cap] 25) none
              have HRA5 := Lib.hid (hra.grow hal2)
              have HEN5 := Lib.hid (hen4.kept hal2)
              have HGA5 := Lib.hid (grownBy_trans hgw hal2 nofun)
              have HSL5 := Lib.hid (Sl.of_own (World.ownsRow_lit (base := 0) (size := 2) (e := 25) w4 #[.string ⟨en.word.toArray⟩, .slice en.F en.flags.length en.cap] 1 (Nat.zero_le _) (by decide) rfl) (by intro x hx; simp at hx; rcases hx with rfl | rfl <;> rfl))
              have HAB5 := Lib.hid (Nat.le_trans hab hs4)
              have HOFV := Lib.hid hofv
              clear hal hga hra hgw hnew hg3 hen hof hen4 hbk hofv hab hal2 hs4 hw4 HRA HGA
              go_wp2_with (at_builtin; refine wpList_append_sl _ rfl (.tmp 49) (.tmp 51) 39 rfl w1.heap.size 25 i0 _ 2 40 Tryd.underlying39 hi hz0 hz1 hz2 rfl (by decide) (.slice A n c) n _ rfl HRA5.out.own (some ⟨w4.heap.size, 0, none⟩) 1 1 en.row rfl HSL5.out (by unfold maxLen; omega) (by omega) (by have := HAB5.out; simp; omega) ?_)
              rintro v' w6 hap
              have hr' := HRA5.out.push HEN5.out HOFV.out hap
              obtain ⟨q2, c2, rfl, _⟩ := own_form hr'.own (by omega)
              have hgw' := grownBy_trans HGA5.out hap.2.1 (fun l hl => .inr (by exact (HRA5.out.own.lt l hl).1))
              have HR6 := Lib.hid hr'
              have HG6 := Lib.hid hgw'
              clear hap hr' hgw'
              go_wp2_with fail
              go_roundw
              case rel => exact ⟨i + 1, bad, n + 1, c2, some ⟨q2, 0, none⟩, es ++ [en], by go_num, by omega, rfl, hbn, rfl, by omega, HR6.out, HG6.out⟩
              case measure => simp [RowKit.intOf]; omega
      · have ei : i = ln := by omega
        subst ei
        have hnl : ¬ (i : Int) < (i : Int) := by omega
        have HK2 := Lib.hid (show n ≤ s.count 10 + 1 by have := HK.out; omega)
        rcases Nat.lt_or_ge 2000 n with h200 | h200
        · have d2 : decide ((2000 : Int) < (n : Int)) = true := decide_eq_true (by omega)
          go_wp2_with fail
          refine bodyPost_ret (results_tmp3 rfl rfl rfl rfl) rfl ?_
          exact P12Res.nothing HGO.out
        · have d2 : decide ((2000 : Int) < (n : Int)) = false := decide_eq_false (by omega)
          rcases Nat.eq_zero_or_pos bad with hb0 | hb0
          · subst hb0
            go_wp2_with fail
            refine bodyPost_ret (results_tmp3 rfl rfl rfl rfl) rfl ?_
            exact HR.out.done HGO.out HK2.out
          · have d4 : decide ((0 : Int) < (bad : Int)) = true := decide_eq_true (by omega)
            go_wp2_with fail
            refine bodyPost_ret (results_tmp3 rfl rfl rfl rfl) rfl ?_
            exact P12Res.nothing HGO.out
end Go.Proofs.YtlbbjcggjmaehaaDoor
