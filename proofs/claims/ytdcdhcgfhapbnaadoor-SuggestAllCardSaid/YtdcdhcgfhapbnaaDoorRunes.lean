/-
  runes.Codes: a text's codes, if it is right UTF-8: the walk. Conditions: a text of at most a million bytes; unicode/utf8's two tables as they are laid.
-/
import Derived.Test.YtdcdhcgfhapbnaaDoorRefAll
import Derived.Test.YtdcdhcgfhapbnaaDoorShelf3
import Derived.Laws.RangeAny
import Derived.Lib.OthersKept
import Derived.Lib.ValidLaws
namespace Go.Proofs.YtdcdhcgfhapbnaaDoor
open Go Go.RowKit Go.Lib

theorem decode_drop (s : Wd) (pos : Nat) : Utf8.decode ⟨s.toArray⟩ pos = decB (s.drop pos) := by
  unfold decB
  rw [Lib.decode_at, get_wd, get_wd, get_wd, get_wd, size_wd, List.length_drop]
  have e : ∀ k, (s.drop pos).getD k 0 = s.getD (pos + k) 0 := fun k => by rw [List.getD_eq_getElem?_getD, List.getD_eq_getElem?_getD, List.getElem?_drop]
  rw [e 0, e 1, e 2, e 3]
  rfl

theorem decodeL_decB (l : Wd) : Lib.decodeL l = decB l := by
  unfold Lib.decodeL
  rw [decode_drop, List.drop_zero]

theorem codeB_neg' {s : Wd} : codeB s < 0 ↔ (decB s).1 = 65533 ∧ (decB s).2 = 1 := by
  rw [codeB_neg]
  constructor
  · intro h; rw [h]; exact ⟨rfl, rfl⟩
  · rintro ⟨h1, h2⟩; exact Prod.ext h1 h2

theorem valid_codes : ∀ (n : Nat) (s : Wd), s.length ≤ n → Lib.validD s = (codesB s).isSome
  | 0, s, h => by
    have : s = [] := List.eq_nil_of_length_eq_zero (by omega)
    subst this; rfl
  | n + 1, s, h => by
    by_cases hne : s = []
    · subst hne; rfl
    · rw [Lib.validD_step s hne, decodeL_decB]
      have h1 := (unit_len hne).1
      rcases Int.lt_or_le (codeB s) 0 with hc | hc
      · rw [if_pos (codeB_neg'.1 hc), codesB_bad hne hc]; rfl
      · rw [if_neg (fun e => by have := codeB_neg'.2 e; omega), codesB_good hne hc, Option.isSome_map]
        have hpos : 0 < s.length := List.length_pos_iff.2 hne
        exact valid_codes n _ (by rw [List.length_drop]; omega)

theorem codesB_nil : codesB [] = some [] := rfl

theorem codesB_len2 : ∀ (n : Nat) (s : Wd) (cs : List Int), s.length ≤ n → codesB s = some cs → cs.length ≤ s.length
  | 0, s, cs, h, hc => by
    have : s = [] := List.eq_nil_of_length_eq_zero (by omega)
    subst this; cases hc; simp
  | n + 1, s, cs, h, hc => by
    by_cases hne : s = []
    · subst hne; cases hc; simp
    · have h1 := (unit_len hne).1
      rcases Int.lt_or_le (codeB s) 0 with h0 | h0
      · rw [codesB_bad hne h0] at hc; cases hc
      · rw [codesB_good hne h0, Option.map_eq_some_iff] at hc
        obtain ⟨ds, hd, rfl⟩ := hc
        have hpos : 0 < s.length := List.length_pos_iff.2 hne
        have := codesB_len2 n (s.drop (decB s).2) ds (by rw [List.length_drop]; omega) hd
        rw [List.length_drop] at this
        rw [List.length_cons]; omega

/-- A text's codes, one by one. -/
theorem codes_step {s : Wd} {pos : Nat} (h : pos < s.length) {rest : List Int} (hr : codesB (s.drop pos) = some rest) :
    ∃ r2, 0 ≤ codeB (s.drop pos) ∧ codeB (s.drop pos) = ((decB (s.drop pos)).1 : Int) ∧ rest = codeB (s.drop pos) :: r2 ∧ codesB (s.drop (pos + (decB (s.drop pos)).2)) = some r2 ∧ 1 ≤ (decB (s.drop pos)).2 ∧ pos + (decB (s.drop pos)).2 ≤ s.length := by
  have hne : s.drop pos ≠ [] := by intro e; have := congrArg List.length e; rw [List.length_drop] at this; simp at this; omega
  have hl := unit_len hne
  rcases Int.lt_or_le (codeB (s.drop pos)) 0 with h0 | h0
  · rw [codesB_bad hne h0] at hr; cases hr
  · have hl2 := hl.2 h0
    rw [List.length_drop] at hl2
    rw [codesB_good hne h0, Option.map_eq_some_iff] at hr
    obtain ⟨r2, hd, rfl⟩ := hr
    rw [List.drop_drop] at hd
    refine ⟨r2, h0, ?_, rfl, hd, hl.1, by omega⟩
    have hn : ¬ decB (s.drop pos) = (65533, 1) := fun e => by have := codeB_neg.2 e; omega
    unfold codeB
    rw [if_neg hn]

theorem grownBy_iterAt {a w : World} {r : Option Nat} (h : a.grownBy w r) {k : Nat} (hk : a.heap.size ≤ k) (s : ByteArray) (pos : Nat) : a.grownBy (w.iterAt k s pos) r :=
  ⟨h.os, h.tape, h.output, by rw [Lib.iterAt_size]; exact h.size, fun i hi hr => by rw [Lib.iterAt_other w k i s pos (by omega)]; exact h.block i hi hr⟩

theorem ownsRow_iterAt {w : World} {base : Nat} {e : TypeId} {size n : Nat} {v : Value} {xs : List Value} (h : w.ownsRow base e size v n xs) {k : Nat} (hk : v.ownBlock ≠ some k) (s : ByteArray) (pos : Nat) : (w.iterAt k s pos).ownsRow base e size v n xs := by
  refine h.kept (row := some k) ⟨rfl, rfl, rfl, by rw [Lib.iterAt_size]; exact Nat.le_refl _, fun i hi hr => Lib.iterAt_other w k i s pos (fun e => hr (by rw [e]))⟩ ?_
  exact .inr hk

theorem valid_shelf (s : Wd) (w : World) (hs : s.length ≤ 1000000) (hT : Lib.Utf8Tabs 0 1 w) :
    Calls Tryd.prog 42 #[.string ⟨s.toArray⟩] w fun e w' => e = .returned (.bool (Lib.validD s)) ∧ Below w.heap.size w w' :=
  Any.utf8_ValidString Tryd.lays196 ⟨s.toArray⟩ w (by rw [size_wd]; omega) hT

set_option maxRecDepth 100000 in
set_option maxHeartbeats 2000000 in
theorem rcodes_walk (s : Wd) (w : World) (hl : s.length ≤ 1000000) (hT : Lib.Utf8Tabs 0 1 w) : Calls Tryd.prog 23 #[.string ⟨s.toArray⟩] w (CodesRes s w) := by
  obtain ⟨i0, hi, hz0, hz1, hz2⟩ := info_parts int_info
  have hsz := size_wd s
  obtain ⟨L, hL⟩ : ∃ L, s.length = L := ⟨_, rfl⟩
  rw [hL] at hsz hl
  have HL := Lib.hid hL
  have HT := Lib.hid hT
  clear hL hT
  obtain ⟨ok, hok⟩ : ∃ ok, (codesB s).isSome = ok := ⟨_, rfl⟩
  have hv : Lib.validD s = ok := by rw [valid_codes _ s (Nat.le_refl _)]; exact hok
  have HOK := Lib.hid hok
  have HV := Lib.hid hv
  clear hok hv
  go_enter Tryd.func23, Tryd.ntmps23
  go_wp2_with fail
  refine (valid_shelf s w (by rw [HL.out]; omega) HT.out).mono ?_
  rintro e w1 ⟨rfl, hb1⟩
  rw [HV.out]
  have HG1 := Lib.hid (below_grown hb1)
  clear hb1 HT
  cases ok with
  | false =>
    have hn : codesB s = none := by have := HOK.out; cases h : codesB s with
      | none => rfl
      | some x => rw [h] at this; cases this
    go_wp2_with fail
    go_ret2
    exact ⟨HG1.out, .inr ⟨hn, rfl⟩⟩
  | true =>
    obtain ⟨cs, hcs⟩ : ∃ cs, codesB s = some cs := Option.isSome_iff_exists.1 HOK.out
    have hcl := codesB_len2 _ s cs (Nat.le_refl _) hcs
    rw [HL.out] at hcl
    have HCS := Lib.hid hcs
    have HCL := Lib.hid hcl
    clear hcs hcl HOK HV
    go_wp2_with fail
    go_loopw [4] (fun lv wr => ∃ (pos k c : Nat) (A : Option Addr) (rest : List Int), pos ≤ L ∧ k ≤ pos ∧ lv = .slice A k c ∧ codesB (s.drop pos) = some rest ∧ cs.take k ++ rest = cs ∧ wr.heap[w1.heap.size]? = some (.stringIter ⟨s.toArray⟩ pos) ∧
      wr.ownsRow (w1.heap.size + 1) 3 1 (.slice A k c) k (intCells (cs.take k)) ∧ w1.grownBy wr none) (fun _ wr => L - wr.iterPos w1.heap.size)
    case atStart =>
      exact ⟨0, 0, 0, none, cs, Nat.zero_le _, Nat.le_refl _, rfl, by rw [List.drop_zero]; exact HCS.out, rfl, World.iter_heap _ _ _, World.ownsRow_nil _ _ _ _, World.grownBy_alloc w1 _ none⟩
    case round =>
      obtain ⟨pos, k, c, A, rest, hpos, hkp, rfl, hrest, htake, hit, hown, hg⟩ := hrel
      have HIT := Lib.hid hit
      have HO := Lib.hid hown
      have HG := Lib.hid hg
      have HTK := Lib.hid htake
      have hm : wr.iterPos w1.heap.size = pos := by unfold World.iterPos; rw [hit]
      have HM := Lib.hid hm
      have hlt0 := heap_lt hit
      clear hit hown hg htake hm
      rcases Nat.lt_or_ge pos L with hlt | hge
      · obtain ⟨r2, h0, hdc, rfl, hr2, hd1, hd2⟩ := codes_step (by rw [HL.out]; exact hlt) hrest
        have hnx : ∀ ty, (Instr.next (.pointer (some ⟨w1.heap.size, 0, none⟩)) true ty).run Tryd.prog wr = _ := fun ty => run_next_any_at wr w1.heap.size ⟨s.toArray⟩ pos ty HIT.out (by rw [hsz]; exact hlt)
        rw [decode_drop] at hnx
        obtain ⟨dr, hdr⟩ : ∃ dr, (decB (s.drop pos)).1 = dr := ⟨_, rfl⟩
        obtain ⟨dn, hdn⟩ : ∃ dn, (decB (s.drop pos)).2 = dn := ⟨_, rfl⟩
        have hdl := decB_le (s.drop pos)
        rw [hdr] at hdl hdc
        rw [hdc] at HTK
        rw [hdn] at hr2 hd1 hd2
        rw [hdr, hdn] at hnx
        rw [HL.out] at hd2
        have hkl : k ≤ cs.length := by
          have := congrArg List.length HTK.out
          rw [List.length_append, List.length_cons, List.length_take] at this; omega
        have hk1 : cs.take (k + 1) = cs.take k ++ [(dr : Int)] := by
          have h2 : cs[k]? = some (dr : Int) := by
            have h3 := congrArg (fun l => l[k]?) HTK.out
            replace h3 : (cs.take k ++ (dr : Int) :: r2)[k]? = cs[k]? := h3
            rw [List.getElem?_append_right (by rw [List.length_take]; omega), List.length_take, Nat.min_eq_left hkl, Nat.sub_self] at h3
            rw [← h3]; rfl
          rw [List.take_add_one, h2]; rfl
        have htk2 : cs.take (k + 1) ++ r2 = cs := by rw [hk1, List.append_assoc]; exact HTK.out
        have hwc : IntKind.i64.wrap (dr : Int) = (dr : Int) := by rw [IntKind.wrap_i64]; omega
        obtain ⟨wi, hwi⟩ : ∃ wi, wr.iterAt w1.heap.size ⟨s.toArray⟩ (pos + dn) = wi := ⟨_, rfl⟩
        rw [hwi] at hnx
        have hgi : w1.grownBy wi none := by rw [← hwi]; exact grownBy_iterAt HG.out (Nat.le_refl _) _ _
        have hoi : wi.ownsRow (w1.heap.size + 1) 3 1 (.slice A k c) k (intCells (cs.take k)) := by
          rw [← hwi]; exact ownsRow_iterAt HO.out (fun e => by have := (HO.out.lt _ e).1; omega) _ _
        have hii : wi.heap[w1.heap.size]? = some (.stringIter ⟨s.toArray⟩ (pos + dn)) := by rw [← hwi]; exact Lib.iterAt_heap wr _ _ pos _ HIT.out
        have hga := World.grownBy_alloc wi (.cells #[.int .i64 (dr : Int)] 3) none
        have hown2 := ownsRow_kept hoi hga (own_none _)
        have hsl := Sl.of_own (World.ownsRow_lit (base := 0) (size := 1) (e := 3) wi #[.int .i64 (dr : Int)] 1 (Nat.zero_le _) (by decide) rfl) (by intro x hx; simp at hx; subst hx; rfl)
        have hwis : w1.heap.size + 1 ≤ wi.heap.size := by rw [← hwi, Lib.iterAt_size]; exact hlt0
        have HO2 := Lib.hid hown2
        have HSL := Lib.hid hsl
        have HGA := Lib.hid (grownBy_trans hgi hga nofun)
        have HII := Lib.hid (grownBy_heap hga hii nofun)
        have HK := Lib.hid (And.intro hk1 (And.intro htk2 hr2))
        have HWI := Lib.hid hwi
        clear hga hown2 hsl hgi hoi hii hk1 htk2 hr2 hwi hrest hdc hdr hdn h0 HTK HO HG HIT
        go_wp2_with (at_builtin; refine wpList_append_sl _ rfl (.tmp 15) (.tmp 18) 36 rfl (w1.heap.size + 1) 3 i0 _ 1 8 Tryd.underlying36 hi hz0 hz1 hz2 rfl (by decide) (.slice A k c) k _ rfl HO2.out (some ⟨wi.heap.size, 0, none⟩) 1 1 [.int .i64 (dr : Int)] rfl HSL.out (by unfold maxLen; omega) (by omega) (by simp; omega) ?_)
        rintro v' w' ⟨hown', hg', hat⟩
        obtain ⟨q', c', rfl, _⟩ := own_form hown' (by omega)
        have hw1s : w1.heap.size < (wi.alloc (.cells #[.int .i64 (dr : Int)] 3)).heap.size := by simp; omega
        have hgw : w1.grownBy w' none := grownBy_trans HGA.out hg' (fun l hl => .inr (by have := (HO2.out.lt l hl).1; omega))
        have hit' : w'.heap[w1.heap.size]? = some (.stringIter ⟨s.toArray⟩ (pos + dn)) := grownBy_heap hg' HII.out (by intro e; have := (HO2.out.lt _ e).1; omega)
        go_wp2_with fail
        go_roundw
        case rel =>
          refine ⟨pos + dn, k + 1, c', some ⟨q', 0, none⟩, r2, by omega, by omega, rfl, HK.out.2.2, HK.out.2.1, hit', ?_, hgw⟩
          rw [HK.out.1]
          simpa [intCells] using hown'
        case measure =>
          rw [HM.out]
          have : w'.iterPos w1.heap.size = pos + dn := by unfold World.iterPos; rw [hit']
          rw [this]; omega
      · obtain rfl : pos = L := by omega
        rw [← HL.out, List.drop_length, codesB_nil] at hrest
        cases hrest
        have htk := HTK.out
        rw [List.append_nil] at htk
        have hkc : k = cs.length := by
          have h1 := congrArg List.length htk
          rw [List.length_take] at h1
          have h2 := HO.out.1
          simp only [intCells, List.length_map, List.length_take] at h2
          omega
        have HTK2 := Lib.hid htk
        have hnx : ∀ ty, (Instr.next (.pointer (some ⟨w1.heap.size, 0, none⟩)) true ty).run Tryd.prog wr = _ := fun ty => run_next_end_at wr w1.heap.size ⟨s.toArray⟩ pos ty HIT.out (by rw [hsz]; omega)
        clear htk HTK
        go_wp2_with fail
        go_ret2
        refine ⟨grownBy_trans HG1.out HG.out nofun, .inl ⟨cs, A, c, HCS.out, by rw [← hkc]; rfl, ?_⟩⟩
        have h1 := HO.out
        rw [HTK2.out] at h1
        rw [← hkc]
        exact ownsRow_base h1 (by have := HG1.out.size; omega)
end Go.Proofs.YtdcdhcgfhapbnaaDoor
