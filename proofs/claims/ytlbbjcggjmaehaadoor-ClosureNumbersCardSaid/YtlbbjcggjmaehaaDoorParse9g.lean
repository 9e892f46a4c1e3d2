/-
  ref09.Parse: the walk, by shape: items that are no longer than the text. Conditions: a text of at most 100000 bytes.
-/
import Derived.Test.YtlbbjcggjmaehaaDoorWords
import Derived.Test.YtlbbjcggjmaehaaDoorParse9
import Derived.Test.YtlbbjcggjmaehaaDoorTail
import Derived.Deep.CutBlock
namespace Go.Proofs.YtlbbjcggjmaehaaDoor
open Go Go.RowKit Go.Maps

/-- Words (lines) of a text: so many, none longer. -/
def LinesOf (k L : Nat) (W : List Wd) : Prop := W.length ≤ k ∧ ∀ x ∈ W, x.length ≤ L

theorem LinesOf.snoc {k k' L : Nat} {W : List Wd} {x : Wd} (h : LinesOf k L W) (hk : k + 1 ≤ k') (hx : x.length ≤ L) : LinesOf k' L (W ++ [x]) := by
  refine ⟨by rw [List.length_append, List.length_singleton]; have := h.1; omega, fun y hy => ?_⟩
  rcases List.mem_append.1 hy with hy | hy
  · exact h.2 y hy
  · rw [List.mem_singleton.1 hy]; exact hx

/-- A text's lines. -/
def linesF : Wd → Wd → List Wd
  | [], cur => if cur = [] then [] else [cur]
  | b :: t, cur => if b = 10 then cur :: linesF t [] else linesF t (cur ++ [b])

def LinesRel (s : Wd) (w : World) (L : Nat) (lv fv iv : Value) (wr : World) : Prop :=
  ∃ (i f n c : Nat) (A : Option Addr) (W : List Wd), i ≤ L ∧ f ≤ i ∧ iv = .int .i64 (i : Int) ∧ fv = .int .i64 (f : Int) ∧ lv = .slice A n c ∧ W.length = n ∧ wr.ownsRow w.heap.size 9 1 (.slice A n c) n (strCells W) ∧
    LinesOf ((s.take i).count 10) L W ∧ n ≤ i ∧ w.grownBy wr none ∧ W ++ linesF (s.drop i) ((s.take i).drop f) = linesF s []

set_option maxRecDepth 100000 in
set_option maxHeartbeats 2000000 in
theorem lines_walk (s : Wd) (w : World) (hl : s.length ≤ 100000) : Calls Tryd.prog 29 #[.string ⟨s.toArray⟩] w fun e w' => ∃ A n c W, e = .returned (.slice A n c) ∧ W.length = n ∧ w'.ownsRow w.heap.size 9 1 (.slice A n c) n (strCells W) ∧ LinesOf (s.count 10 + 1) s.length W ∧ w.grownBy w' none ∧ W = linesF s [] := by
  obtain ⟨i0, hi, hz0, hz1, hz2⟩ := info_parts str_info
  have hsz := size_wd s
  obtain ⟨L, hL⟩ : ∃ L, s.length = L := ⟨_, rfl⟩
  rw [hL] at hsz hl ⊢
  have HL := Lib.hid hL
  clear hL
  go_enter Tryd.func29, Tryd.ntmps29
  go_wp2_with fail
  go_loopw [3, 4, 5] (fun lv fv iv wr => LinesRel s w L lv fv iv wr) (fun _ _ iv _ => L - (RowKit.intOf iv).toNat)
  case atStart => exact ⟨0, 0, 0, 0, none, [], by omega, by omega, rfl, rfl, rfl, rfl, World.ownsRow_nil _ _ _ _, ⟨by simp, by simp⟩, by omega, grownBy_refl _ _, by simp⟩
  case round =>
    obtain ⟨i, f, n, c, A, W, hi1, hfi, rfl, rfl, rfl, hn, hown, hst, hWl, hg, hli⟩ := hrel
    have HLI := Lib.hid hli
    clear hli
    have HO := Lib.hid hown
    have HG := Lib.hid hg
    have HST := Lib.hid hst
    have HNW := Lib.hid hn
    clear hown hg hst hn
    have hfii : (f : Int) ≤ (i : Int) := by omega
    obtain ⟨cur, hcu⟩ : ∃ cur, (s.take i).drop f = cur := ⟨_, rfl⟩
    have hex : f ≤ i → (⟨s.toArray⟩ : ByteArray).extract f i = ⟨cur.toArray⟩ := fun _ => by rw [← hcu]; exact slice_wd s f i
    have hex := hex hfi
    have hcl : cur.length ≤ L := by rw [← hcu, List.length_drop, List.length_take, HL.out]; omega
    have HCL := Lib.hid hcl
    have hga := World.grownBy_alloc wr (.cells #[.string ⟨cur.toArray⟩] 9) none
    have hown2 := ownsRow_kept HO.out hga (own_none _)
    have hsl := Sl.of_own (World.ownsRow_lit (base := 0) (size := 1) (e := 9) wr #[.string ⟨cur.toArray⟩] 1 (Nat.zero_le _) (by decide) rfl) (by intro x hx; simp at hx; subst hx; rfl)
    have hwr := HG.out.size
    have HCU := Lib.hid hcu
    have HGA := Lib.hid hga
    have HO2 := Lib.hid hown2
    have HSL := Lib.hid hsl
    clear hcl hcu hga hown2 hsl
    have hsn : strCells (W ++ [cur]) = strCells W ++ [.string ⟨cur.toArray⟩] := by simp [strCells]
    have HSN := Lib.hid hsn
    clear hsn
    rcases Nat.lt_or_ge i L with hlt | hge
    · have hlti : (i : Int) < (L : Int) := by omega
      obtain ⟨b, hb⟩ : ∃ b, s[i]? = some b := ⟨_, List.getElem?_eq_getElem (by rw [HL.out]; exact hlt)⟩
      have hx := get_byte hb
      have HB := Lib.hid hb
      have htk : (s.take (i + 1)).count 10 = (s.take i).count 10 + if b = 10 then 1 else 0 := by rw [List.take_add_one, hb]; simp [List.count_append, List.count_singleton, beq_iff_eq]
      have HTK := Lib.hid htk
      have hbl := UInt8.toNat_lt b
      clear hb htk
      by_cases hsp : b = 10
      · have hsp1 : (b.toNat : Int) = 10 := by rw [hsp]; rfl
        have htk := HTK.out
        rw [if_pos hsp] at htk
        have HST2 := Lib.hid (HST.out.snoc (x := cur) (k' := (s.take (i + 1)).count 10) (by omega) HCL.out)
        have hl2 : (W ++ [cur]) ++ linesF (s.drop (i + 1)) ((s.take (i + 1)).drop (i + 1)) = linesF s [] := by
          have e0 : (s.take (i + 1)).drop (i + 1) = [] := List.drop_of_length_le (by rw [List.length_take]; omega)
          rw [e0, ← HLI.out, drop_cons HB.out, HCU.out]
          simp only [linesF, if_pos hsp]
          rw [List.append_assoc]
          rfl
        have HLI2 := Lib.hid hl2
        clear htk hsp hl2
        go_wp2_with (at_builtin; refine wpList_append_sl _ rfl (.tmp 16) (.tmp 21) 29 rfl w.heap.size 9 i0 _ 1 16 Tryd.underlying29 hi hz0 hz1 hz2 rfl (by decide) (.slice A n c) n _ rfl HO2.out (some ⟨wr.heap.size, 0, none⟩) 1 1 [.string ⟨cur.toArray⟩] rfl HSL.out (by unfold maxLen; omega) (by omega) (by simp; omega) ?_)
        rintro v' w' ⟨hown', hg', hat⟩
        obtain ⟨q', c', rfl, _⟩ := own_form hown' (by omega)
        have hgw : w.grownBy w' none := grownBy_trans (grownBy_trans HG.out HGA.out nofun) hg' (fun l hl => .inr (HO2.out.lt l hl).1)
        go_wp2_with fail
        go_roundw
        case rel =>
          have e : (W ++ [cur]).length = n + 1 := by rw [List.length_append, HNW.out]; rfl
          exact ⟨i + 1, i + 1, n + 1, c', some ⟨q', 0, none⟩, W ++ [cur], by omega, by omega, by go_num, by go_num, rfl, e, by rw [HSN.out]; exact hown', HST2.out, by omega, hgw, HLI2.out⟩
        case measure => simp [RowKit.intOf]; omega
      · have hsp1 : ¬ (b.toNat : Int) = 10 := fun e => hsp (UInt8.toNat_inj.1 (by show b.toNat = 10; omega))
        have hsp2 : ((b.toNat : Int) == 10) = false := by rw [beq_eq_false_iff_ne]; exact hsp1
        have htk := HTK.out
        rw [if_neg hsp] at htk
        have HST2 := Lib.hid (show LinesOf ((s.take (i + 1)).count 10) L W from ⟨by have := HST.out.1; omega, HST.out.2⟩)
        have hl2 : W ++ linesF (s.drop (i + 1)) ((s.take (i + 1)).drop f) = linesF s [] := by
          rw [← HLI.out, drop_cons HB.out, take_snoc HB.out hfi]
          simp only [linesF]
          rw [if_neg hsp]
        have HLI2 := Lib.hid hl2
        clear htk hsp hl2
        go_wp2_with fail
        go_roundw
        case rel => exact ⟨i + 1, f, n, c, A, W, by omega, by omega, by go_num, rfl, rfl, HNW.out, HO.out, HST2.out, by omega, HG.out, HLI2.out⟩
        case measure => simp [RowKit.intOf]; omega
    · obtain rfl : i = L := by omega
      have htk : (s.take i).count 10 = s.count 10 := by rw [← HL.out, List.take_length]
      have HTK := Lib.hid htk
      clear htk
      rcases Nat.lt_or_ge f i with hfl | hfl
      · have hfli : (f : Int) < (i : Int) := by omega
        have HST2 := Lib.hid (HST.out.snoc (x := cur) (k' := s.count 10 + 1) (Nat.le_of_eq (by rw [HTK.out])) HCL.out)
        have hl2 : W ++ [cur] = linesF s [] := by
          have hne : cur ≠ [] := fun e => by
            have h1 := congrArg List.length HCU.out
            rw [e, List.length_drop, List.length_take, HL.out] at h1
            simp at h1; omega
          rw [← HLI.out, HCU.out, List.drop_of_length_le (Nat.le_of_eq HL.out)]
          simp only [linesF]
          rw [if_neg hne]
        have HLI2 := Lib.hid hl2
        clear hl2
        go_wp2_with (at_builtin; refine wpList_append_sl _ rfl (.tmp 29) (.tmp 33) 29 rfl w.heap.size 9 i0 _ 1 16 Tryd.underlying29 hi hz0 hz1 hz2 rfl (by decide) (.slice A n c) n _ rfl HO2.out (some ⟨wr.heap.size, 0, none⟩) 1 1 [.string ⟨cur.toArray⟩] rfl HSL.out (by unfold maxLen; omega) (by omega) (by simp; omega) ?_)
        rintro v' w' ⟨hown', hg', hat⟩
        obtain ⟨q', c', rfl, _⟩ := own_form hown' (by omega)
        have hgw : w.grownBy w' none := grownBy_trans (grownBy_trans HG.out HGA.out nofun) hg' (fun l hl => .inr (HO2.out.lt l hl).1)
        go_wp2_with fail
        go_ret
        have e : (W ++ [cur]).length = n + 1 := by rw [List.length_append, HNW.out]; rfl
        exact ⟨_, n + 1, c', W ++ [cur], rfl, e, by rw [HSN.out]; exact hown', HST2.out, hgw, HLI2.out⟩
      · have hfli : ¬ (f : Int) < (i : Int) := by omega
        have HST2 := Lib.hid (show LinesOf (s.count 10 + 1) i W from ⟨by have := HST.out.1; rw [HTK.out] at this; omega, HST.out.2⟩)
        have hl2 : W = linesF s [] := by
          have hne : cur = [] := by
            rw [← HCU.out]; exact List.drop_of_length_le (by rw [List.length_take]; omega)
          rw [← HLI.out, HCU.out, List.drop_of_length_le (Nat.le_of_eq HL.out), hne]
          simp [linesF]
        have HLI2 := Lib.hid hl2
        clear hl2
        go_wp2_with fail
        go_ret
        exact ⟨A, n, c, rfl, W, HNW.out, HO.out, HST2.out, HG.out, HLI2.out⟩
end Go.Proofs.YtlbbjcggjmaehaaDoor

namespace Go.Proofs.YtlbbjcggjmaehaaDoor
open Go Go.RowKit Go.Maps

/-- An item's set: where it lies, how long. -/
def ItAt (w : World) (b0 L : Nat) (x : It) : Prop := Sl w 1 x.S x.set.length (intCells x.set) ∧ x.set.length ≤ L ∧ ∀ b, b < b0 → Off x.S x.set.length b

theorem ItAt.kept {w w' : World} {b0 L : Nat} {x : It} (h : ItAt w b0 L x) (g : w.grownBy w' none) : ItAt w' b0 L x := ⟨h.1.kept g nofun, h.2⟩

/-- Items under way. -/
structure P9 (w1 : World) (L : Nat) (wr : World) (A : Option Addr) (n k : Nat) (its : List It) : Prop where
  len : its.length = n
  own : wr.ownsRow w1.heap.size 48 3 (.slice A n k) n (itCells its)
  ats : ∀ x ∈ its, ItAt wr w1.heap.size L x
  offs : ∀ x ∈ its, ∀ b, (Value.slice A n k).ownBlock = some b → Off x.S x.set.length b
  grown : w1.grownBy wr none

theorem P9.kept {w1 : World} {L : Nat} {wr u : World} {A : Option Addr} {n k : Nat} {its : List It} (h : P9 w1 L wr A n k its) (g : wr.grownBy u none) : P9 w1 L u A n k its :=
  ⟨h.len, ownsRow_kept h.own g (own_none _), fun x hx => (h.ats x hx).kept g, h.offs, grownBy_trans h.grown g nofun⟩

theorem itCells_snoc (l : List It) (x : It) : itCells (l ++ [x]) = itCells l ++ x.row := by simp [itCells]
theorem itCells_one (l : List It) : ∀ x ∈ itCells l, x.oneCell' = true := by
  intro v hv
  obtain ⟨x, _, hx⟩ := List.mem_flatMap.1 hv
  simp only [It.row, List.mem_cons, List.not_mem_nil, or_false] at hx
  rcases hx with rfl | rfl | rfl <;> rfl

/-- One item more. -/
theorem P9.push {w1 : World} {L : Nat} {wr u : World} {A : Option Addr} {n k : Nat} {its : List It} (h : P9 w1 L wr A n k its) (g : wr.grownBy u none) {x : It} (hx : ItAt u wr.heap.size L x)
    {v' : Value} {w' : World} (ha : Appended w1.heap.size 48 3 (.slice A n k) (n + 1) (itCells its ++ x.row) u v' w') :
    ∃ q k', v' = .slice (some ⟨q, 0, none⟩) (n + 1) k' ∧ P9 w1 L w' (some ⟨q, 0, none⟩) (n + 1) k' (its ++ [x]) := by
  obtain ⟨hown, hg, hat⟩ := ha
  obtain ⟨q, k', rfl, _⟩ := own_form hown (by omega)
  have hu := h.kept g
  have hlt : ∀ b, (Value.slice A n k).ownBlock = some b → w1.heap.size ≤ b ∧ b < wr.heap.size := fun b hb => h.own.lt b hb
  have hx1 : ∀ b, (Value.slice A n k).ownBlock = some b → Off x.S x.set.length b := fun b hb => hx.2.2 b (hlt b hb).2
  have hall : ∀ y ∈ its ++ [x], ItAt u w1.heap.size L y ∧ ∀ b, (Value.slice A n k).ownBlock = some b → Off y.S y.set.length b := by
    intro y hy
    rcases List.mem_append.1 hy with hy | hy
    · exact ⟨hu.ats y hy, hu.offs y hy⟩
    · rw [List.mem_singleton.1 hy]
      exact ⟨⟨hx.1, hx.2.1, fun b hb => hx.2.2 b (by have := h.grown.size; omega)⟩, hx1⟩
  refine ⟨q, k', rfl, by rw [List.length_append, h.len]; rfl, by rw [itCells_snoc]; exact hown, fun y hy => ⟨(hall y hy).1.1.kept hg (hall y hy).2, (hall y hy).1.2⟩, fun y hy b hb => ?_, grownBy_trans hu.grown hg (fun l hl => .inr (hlt l hl).1)⟩
  rcases hat with h2 | h2
  · exact (hall y hy).2 b (by rw [← h2]; exact hb)
  · have e : b = u.heap.size := Option.some.inj (hb.symm.trans h2)
    exact (hall y hy).1.1.off_new (by decide) (Nat.le_of_eq e.symm)

/-- May so many items, in such a state (0: none is open; 1: just open; m + 2: open, m codes), with what is left be a condition? -/
def run9 : Nat → Nat → List Int → Bool
  | n, 0, [] => decide (1 ≤ n) && decide (n ≤ 8)
  | _, _ + 1, [] => false
  | n, 0, c :: cs => if c = 46 then run9 (n + 1) 0 cs else if c = 93 then false else if c = 91 then run9 n 1 cs else run9 (n + 1) 0 cs
  | n, 1, c :: cs => if c = 94 then run9 n 2 cs else if c = 93 then false else run9 n 3 cs
  | n, k + 2, c :: cs => if c = 93 then decide (1 ≤ k) && run9 (n + 1) 0 cs else run9 n (k + 3) cs

def good9 (s : Wd) : Bool := match codesB s with | some cs => run9 0 0 cs | none => false

theorem drop_consI {l : List Int} {i : Nat} {b : Int} (h : l[i]? = some b) : l.drop i = b :: l.drop (i + 1) := by
  have hl := (List.getElem?_eq_some_iff.1 h).1
  rw [List.drop_eq_getElem_cons hl]
  rw [List.getElem?_eq_getElem hl] at h
  rw [Option.some.inj h]

theorem run9_open {n : Nat} : ∀ {l : List Int}, l[0]? ≠ some 94 → run9 n 1 l = run9 n 2 l
  | [], _ => rfl
  | c :: cs, h => by
    have h1 : c ≠ 94 := fun e => h (by rw [e]; rfl)
    show (if c = 94 then run9 n 2 cs else if c = 93 then false else run9 n 3 cs) = (if c = 93 then decide (1 ≤ 0) && run9 (n + 1) 0 cs else run9 n 3 cs)
    rw [if_neg h1]; rfl

/-- What ref09.Parse answers. -/
def P9Res (L : Nat) (s : Wd) (w : World) (e : Ending) (w' : World) : Prop :=
  w.grownBy w' none ∧ ((∃ C n k l, e = .returned (.tuple #[.slice C n k, .bool true]) ∧ l.length = n ∧ n ≤ L ∧ CondAt w' C l ∧ (∀ b, b < w.heap.size → Off C n b ∧ ∀ x ∈ l, Off x.S x.set.length b) ∧ ∀ x ∈ l, x.set.length ≤ L) ∨ (e = .returned (.tuple #[.slice none 0 0, .bool false]) ∧ good9 s = false))

theorem codesF_length : ∀ (f : Nat) (s : Wd) (cs : List Int), codesF f s = some cs → cs.length ≤ s.length
  | f, [], cs, h => by cases f <;> (simp [codesF] at h; subst h; simp)
  | 0, _ :: _, cs, h => by simp [codesF] at h
  | f + 1, b :: s, cs, h => by
    unfold codesF at h
    split at h
    · cases h
    · obtain ⟨t, ht, rfl⟩ := Option.map_eq_some_iff.1 h
      have h1 := codesF_length f _ t ht
      have h2 := (unit_len (s := b :: s) (by simp)).1
      rw [List.length_drop] at h1
      simp only [List.length_cons] at h1 ⊢
      omega
theorem codesB_length {s : Wd} {cs : List Int} (h : codesB s = some cs) : cs.length ≤ s.length := codesF_length _ _ _ h

set_option maxRecDepth 100000 in
set_option maxHeartbeats 2000000 in
theorem parse9_walk (s : Wd) (L : Nat) (w : World) (hs : s.length ≤ L) (hl : L ≤ 100000) :
    Calls Tryd.prog 36 #[.string ⟨s.toArray⟩] w (P9Res L s w) := by
  obtain ⟨i0, hi, hz0, hz1, hz2⟩ := info_parts item_info
  obtain ⟨j0, hj, hy0, hy1, hy2⟩ := info_parts int_info
  go_enter Tryd.func36, Tryd.ntmps36
  go_wp2_with fail
  refine (codes_walk s w (by omega)).mono ?_
  rintro e w1 ⟨hg1, hcr⟩
  rcases hcr with ⟨cs, A, k, hcs, rfl, hown⟩ | ⟨hcs, rfl⟩
  · have hcl := Nat.le_trans (codesB_length hcs) hs
    have hsl := Sl.of_own hown (by intro x hx; obtain ⟨d, _, rfl⟩ := List.mem_map.1 hx; rfl)
    obtain ⟨g, hg⟩ : ∃ g, run9 0 0 cs = g := ⟨_, rfl⟩
    have hgood : good9 s = g := by unfold good9; rw [hcs]; exact hg
    have HG9 := Lib.hid hgood
    have HRUN0 := Lib.hid hg
    clear hown hcs hg hgood
    obtain ⟨N, hN⟩ : ∃ N, cs.length = N := ⟨_, rfl⟩
    rw [hN] at hsl hcl ⊢
    have HSC := Lib.hid hsl
    have HN := Lib.hid hN
    have HG1 := Lib.hid hg1
    clear hsl hN hg1
    go_wp2_with fail
    go_loopw [6, 7] (fun lv iv wr => ∃ (A : Option Addr) (n k i : Nat) (its : List It), iv = .int .i64 (i : Int) ∧ i ≤ N ∧ lv = .slice A n k ∧ n ≤ i ∧ P9 w1 L wr A n k its ∧ run9 n 0 (cs.drop i) = g) (fun _ iv _ => N - (RowKit.intOf iv).toNat)
    case atStart => exact ⟨none, 0, 0, 0, [], rfl, Nat.zero_le _, rfl, Nat.le_refl _, ⟨rfl, World.ownsRow_nil _ _ _ _, by simp, by simp, grownBy_refl _ none⟩, HRUN0.out⟩
    case round =>
      obtain ⟨B, n, kb, i, its, rfl, hiN, rfl, hni, hp9, hrun⟩ := hrel
      have HP := Lib.hid hp9
      have HRUN := Lib.hid hrun
      clear hrun
      have hwr := hp9.grown.size
      clear hp9
      rcases Nat.lt_or_ge i N with hlt | hge
      · have hlti : (i : Int) < (N : Int) := by omega
        obtain ⟨c, hc⟩ : ∃ c, cs[i]? = some c := ⟨_, List.getElem?_eq_getElem (by rw [HN.out]; exact hlt)⟩
        have hrun := HRUN.out
        rw [drop_consI hc] at hrun
        have HRUN2 := Lib.hid hrun
        clear hrun
        have hcc : ∀ u, wr.grownBy u none → ∃ q o, A = some ⟨q, o, none⟩ ∧ ∀ (j : Nat) (d : Int), cs[j]? = some d → u.cell? ⟨q, o + j, none⟩ = some (.int .i64 d) := fun u hu => by
          have h := HSC.out.kept (grownBy_trans HP.out.grown hu nofun) nofun
          obtain ⟨q, o, e, hk⟩ := h.2.2 (by omega)
          exact ⟨q, o, e, fun j d hd => hk j _ (by rw [intCells, List.getElem?_map, hd]; rfl)⟩
        obtain ⟨q, o, eA, hq⟩ := hcc wr (grownBy_refl _ none)
        have hcq : ∀ u, wr.grownBy u none → ∀ (j : Nat) (d : Int), cs[j]? = some d → u.cell? ⟨q, o + j, none⟩ = some (.int .i64 d) := fun u hu => by
          obtain ⟨q', o', e', h⟩ := hcc u hu
          rw [eA] at e'
          cases e'
          exact h
        have c0 := hq i c hc
        subst eA
        have HCQ := Lib.hid hcq
        clear hcc hq hcq
        by_cases h1 : c = 46
        · subst h1
          have HRUN3 := Lib.hid (show run9 (n + 1) 0 (cs.drop (i + 1)) = g from HRUN2.out)
          have hal := World.grownBy_alloc wr (.cells #[.bool true, .bool false, .slice none 0 0] 48) none
          have hsl := Sl.of_own (World.ownsRow_lit (base := 0) (size := 3) (e := 48) wr #[.bool true, .bool false, .slice none 0 0] 1 (Nat.zero_le _) (by decide) rfl) (by intro x hx; simp at hx; rcases hx with rfl | rfl | rfl <;> rfl)
          have hown := (HP.out.kept hal).own
          have HAL := Lib.hid hal
          have HSL := Lib.hid hsl
          have HOW := Lib.hid hown
          clear hal hsl hown
          go_wp2_with (at_builtin; refine wpList_append_sl _ rfl (.tmp 37) (.tmp 39) 49 rfl w1.heap.size 48 i0 _ 3 32 Tryd.underlying49 hi hz0 hz1 hz2 rfl (by decide) (.slice B n kb) n _ rfl HOW.out (some ⟨wr.heap.size, 0, none⟩) 1 1 (It.row ⟨true, false, none, 0, []⟩) rfl HSL.out (by unfold maxLen; omega) (by omega) (by simp; omega) ?_)
          rintro v' w' hap
          obtain ⟨q', k', rfl, hp'⟩ := HP.out.push HAL.out (x := ⟨true, false, none, 0, []⟩) ⟨Sl.nil _ _ _, Nat.zero_le _, fun b _ h => absurd h (by simp)⟩ hap
          have HP' := Lib.hid hp'
          clear hp' hap
          go_wp2_with fail
          go_roundw
          case rel => exact ⟨some ⟨q', 0, none⟩, n + 1, k', i + 1, _, by go_num, by omega, rfl, by omega, HP'.out, HRUN3.out⟩
          case measure => simp [RowKit.intOf]; omega
        · have d1 : (c == 46) = false := by rw [beq_eq_false_iff_ne]; exact h1
          by_cases h2 : c = 93
          · subst h2
            have hgf : g = false := HRUN2.out.symm
            have HGF := Lib.hid (HG9.out.trans hgf)
            clear hgf
            go_wp2_with fail
            go_ret2
            exact ⟨grownBy_trans HG1.out HP.out.grown nofun, .inr ⟨rfl, HGF.out⟩⟩
          · have d2 : (c == 93) = false := by rw [beq_eq_false_iff_ne]; exact h2
            by_cases h3 : c = 91
            · subst h3
              have HRUN3 := Lib.hid (show run9 n 1 (cs.drop (i + 1)) = g from HRUN2.out)
              have hal := World.grownBy_alloc wr (.cells #[.bool false, .bool false, .slice none 0 0] 48) none
              have hbl := heap_alloc_new wr (.cells #[.bool false, .bool false, .slice none 0 0] 48 (0, 0))
              have HAL := Lib.hid hal
              have HBL := Lib.hid hbl
              clear hal hbl
              go_upto_region 16 with (fail)
              have hP1 : wr.heap.size < (wr.alloc (.cells #[.bool false, .bool false, .slice none 0 0] 48)).heap.size := by rw [World.size_alloc]; omega
              obtain ⟨wa, hwa⟩ : ∃ wa, wr.alloc (.cells #[.bool false, .bool false, .slice none 0 0] 48) = wa := ⟨_, rfl⟩
              have hgA := HAL.out
              have hbA := HBL.out
              rw [hwa] at hgA hbA hP1 ⊢
              have HAL := Lib.hid hgA
              have HBL := Lib.hid hbA
              clear hgA hbA hwa
              obtain ⟨P, hP⟩ : ∃ P, wr.heap.size = P := ⟨_, rfl⟩
              have HPE := Lib.hid hP
              have hP8 := hP ▸ HBL.out
              have HB8 := Lib.hid hP8
              rw [hP] at hP1 ⊢
              have hw1P : w1.heap.size ≤ P := by omega
              clear hP8 hP HBL
              obtain ⟨b, hb⟩ : ∃ b, decide (cs[i + 1]? = some 94) = b := ⟨_, rfl⟩
              have HBD := Lib.hid hb
              clear hb c0
              go_upto_region 17 with (fail)
              go_cut [58] (fun v wx => v = .bool b ∧ wx = wa)
              case first =>
                have hb := HBD.out
                rcases Nat.lt_or_ge (i + 1) N with hl1 | hl1
                · have hl1i : ((i + 1 : Nat) : Int) < (N : Int) := by omega
                  have hl1j : (i : Int) + 1 < (N : Int) := by omega
                  have hl1d : decide (((i + 1 : Nat) : Int) < (N : Int)) = true := decide_eq_true hl1i
                  obtain ⟨c1, hc1⟩ : ∃ c1, cs[i + 1]? = some c1 := ⟨_, List.getElem?_eq_getElem (by rw [HN.out]; exact hl1)⟩
                  have c1c := HCQ.out wa HAL.out (i + 1) c1 hc1
                  rw [hc1] at hb
                  have hb2 : (c1 == 94) = b := by rw [← hb, Bool.eq_iff_iff]; simp
                  clear hb hc1
                  go_wp2_with fail
                  go_meet
                  exact ⟨by first | rfl | trivial | (simp [hb2]; done), rfl⟩
                · have hl1i : ¬ ((i + 1 : Nat) : Int) < (N : Int) := by omega
                  have hl1j : ¬ (i : Int) + 1 < (N : Int) := by omega
                  have hl1d : decide (((i + 1 : Nat) : Int) < (N : Int)) = false := decide_eq_false hl1i
                  rw [List.getElem?_eq_none (by rw [HN.out]; exact hl1)] at hb
                  have hbf : b = false := by rw [← hb]; simp
                  subst hbf
                  clear hb
                  go_wp2_with fail
                  go_meet
                  exact ⟨by first | rfl | trivial, rfl⟩
              case rest =>
                obtain ⟨rfl, rfl⟩ := hcut
                go_upto_if 58 with (fail)
                go_cut [7] (fun iv wx => ∃ (i1 : Nat) (neg : Bool), iv = .int .i64 (i1 : Int) ∧ i + 1 ≤ i1 ∧ i1 ≤ N ∧ run9 n 2 (cs.drop i1) = g ∧ wx.heap[P]? = some (.cells #[.bool false, .bool neg, .slice none 0 0] 48 (0, 0)) ∧ wr.grownBy wx none)
                case first =>
                  have g1 := frozen_of_heap HB8.out 1
                  have f1 := cell_of_heap HB8.out 1
                  have hgs := grownBy_setCell HAL.out P 1 (.bool true) (.inr (by have := HPE.out; omega))
                  have hst := heap_setCell HB8.out 1 (.bool true)
                  have HGS := Lib.hid hgs
                  have HST := Lib.hid hst
                  clear hgs hst
                  have hb := HBD.out
                  cases b with
                  | true =>
                    have hc1 : cs[i + 1]? = some 94 := of_decide_eq_true hb
                    have hlN : i + 1 < N := by rw [← HN.out]; exact (List.getElem?_eq_some_iff.1 hc1).1
                    have hr4 := HRUN3.out
                    rw [drop_consI hc1] at hr4
                    have HRUN4 := Lib.hid (show run9 n 2 (cs.drop (i + 2)) = g from hr4)
                    clear hb hc1 hr4
                    go_wp2_with fail
                    go_meet
                    exact ⟨i + 2, true, by go_num, by omega, by omega, HRUN4.out, HST.out, HGS.out⟩
                  | false =>
                    have hc1 : cs[i + 1]? ≠ some 94 := of_decide_eq_false hb
                    have HRUN4 := Lib.hid ((run9_open (n := n) (l := cs.drop (i + 1)) (by rw [List.getElem?_drop]; exact hc1)).symm.trans HRUN3.out)
                    clear hb hc1
                    go_wp2_with fail
                    go_meet
                    exact ⟨i + 1, false, by go_num, by omega, by omega, HRUN4.out, HB8.out, HAL.out⟩
                case rest =>
                  obtain ⟨i1, neg, rfl, hi1, hi1N, hr5, hbx, hgx⟩ := hcut
                  have HRUN5 := Lib.hid hr5
                  clear hr5
                  have HBX := Lib.hid hbx
                  have HGX := Lib.hid hgx
                  clear hbx hgx
                  go_wp2_with fail
                  obtain ⟨wo, rfl⟩ : ∃ wo, wo = wr := ⟨_, rfl⟩
                  go_loopw [7] (fun iv wr => ∃ (i2 m kc : Nat) (S : Option Addr) (set : List Int), iv = .int .i64 (i2 : Int) ∧ i1 ≤ i2 ∧ i2 ≤ N ∧ set.length = m ∧ m ≤ i2 ∧ run9 n (m + 2) (cs.drop i2) = g ∧ wr.heap[P]? = some (.cells #[.bool false, .bool neg, .slice S m kc] 48 (0, 0)) ∧ wr.ownsRow (P + 1) 3 1 (.slice S m kc) m (intCells set) ∧ wo.grownBy wr none) (fun iv _ => N - (RowKit.intOf iv).toNat)
                  case atStart => exact ⟨i1, 0, 0, none, [], rfl, Nat.le_refl _, hi1N, rfl, Nat.zero_le _, HRUN5.out, HBX.out, World.ownsRow_nil _ _ _ _, HGX.out⟩
                  case round =>
                    obtain ⟨i2, m, kc, S, set, rfl, hi12, hi2N, hm, hmi, hr6, hby, hoy, hgy⟩ := hrel
                    have HRUN6 := Lib.hid hr6
                    clear hr6
                    have hPy : P < wr.heap.size := heap_lt hby
                    have HBY := Lib.hid hby
                    have HOY := Lib.hid hoy
                    have HGY := Lib.hid hgy
                    have HM := Lib.hid hm
                    clear hby hoy hgy hm
                    by_cases hgo : ∃ d, cs[i2]? = some d ∧ d ≠ 93
                    · obtain ⟨d, hd, hd93⟩ := hgo
                      have hlt2 : i2 < N := by rw [← HN.out]; exact (List.getElem?_eq_some_iff.1 hd).1
                      have e1 : (i2 : Int) < (N : Int) := by omega
                      have e1d : decide ((i2 : Int) < (N : Int)) = true := decide_eq_true e1
                      have e2 : (d == 93) = false := by rw [beq_eq_false_iff_ne]; exact hd93
                      have cd := HCQ.out wr HGY.out i2 d hd
                      have cs2 := cell_of_heap HBY.out 2
                      have hr7 := HRUN6.out
                      rw [drop_consI hd] at hr7
                      have HRUN7 := Lib.hid (show run9 n (m + 1 + 2) (cs.drop (i2 + 1)) = g by rw [← hr7]; show _ = (if d = 93 then decide (1 ≤ m) && run9 (n + 1) 0 (cs.drop (i2 + 1)) else run9 n (m + 3) (cs.drop (i2 + 1))); rw [if_neg hd93])
                      clear hd hd93 hr7
                      go_upto_region 21 with (fail)
                      have hqP : q ≠ P := fun e => by
                        have h1 := World.block_lt_of_cell? w1 ⟨q, o + i, none⟩ (by
                          obtain ⟨q', o', e', hk⟩ := HSC.out.2.2 (by omega)
                          cases e'
                          exact hk i _ (by rw [intCells, List.getElem?_map, hc]; rfl))
                        simp only at h1; omega
                      have hal2 := grownBy_drew (World.grownBy_alloc wr (.cells #[.int .i64 d] 3) none)
                      have hal3 := World.grownBy_alloc wr.drew (.cells #[.int .i64 d] 3) none
                      have hdr : wr.grownBy wr.drew none := grownBy_drew (grownBy_refl wr none)
                      have hal := grownBy_trans hdr hal3 nofun
                      have how := Lib.hid (ownsRow_kept HOY.out hal (own_none _))
                      have hsl := Lib.hid (Sl.of_own (World.ownsRow_lit (base := 0) (size := 1) (e := 3) wr.drew #[.int .i64 d] 1 (Nat.zero_le _) (by decide) rfl) (by intro x hx; simp at hx; subst hx; rfl))
                      have hm2 := hal.cell (a := ⟨P, 2, none⟩) cs2 nofun
                      have hm3 := hal.cell (a := ⟨q, o + i2, none⟩) cd nofun
                      have hbal := Lib.hid (grownBy_heap hal HBY.out nofun)
                      have HAL2 := Lib.hid hal
                      have HALS := Lib.hid hal.size
                      clear hal2 hal3 hdr hal
                      go_wp2_with fail
                      refine region_tail 9 (fun u => u.cell? ⟨P, 2, none⟩ = some (.slice S m kc) ∧ u.cell? ⟨q, o + i2, none⟩ = some (.int .i64 d)) (by kernel_rfl) ⟨cs2, cd⟩ (fun hHeld => ?_)
                      refine tail_take 0 (v := ?_) rfl (by kernel_rfl) (by kernel_rfl) (by kernel_rfl) (by kernel_rfl) (fun _ _ _ h => h) (by rfl) (fun u hu => ?_) (by assumption) ?_
                      rotate_left
                      focus ((try dsimp only at hu); obtain ⟨u0, u1⟩ := hu; go_simp; (try with_reducible rfl); done)
                      try simp only [Act.put]
                      refine tail_take 1 (v := ?_) rfl (by kernel_rfl) (by kernel_rfl) (by kernel_rfl) (by kernel_rfl) (fun _ _ _ h => h) (by rfl) (fun u hu => ?_) (by assumption) ?_
                      rotate_left
                      focus ((try dsimp only at hu); obtain ⟨u0, u1⟩ := hu; go_simp; (try with_reducible rfl); done)
                      try simp only [Act.put]
                      refine tail_take 2 (v := ?_) rfl (by kernel_rfl) (by kernel_rfl) (by kernel_rfl) (by kernel_rfl) (fun _ _ _ h => h) (by rfl) (fun u hu => ?_) (by assumption) ?_
                      rotate_left
                      focus ((try dsimp only at hu); obtain ⟨u0, u1⟩ := hu; go_simp; (try with_reducible rfl); done)
                      try simp only [Act.put]
                      refine tail_take 3 (v := ?_) rfl (by kernel_rfl) (by kernel_rfl) (by kernel_rfl) (by kernel_rfl) (fun _ _ _ h => h) (by rfl) (fun u hu => ?_) (by assumption) ?_
                      rotate_left
                      focus ((try dsimp only at hu); obtain ⟨u0, u1⟩ := hu; go_simp; (try with_reducible rfl); done)
                      try simp only [Act.put]
                      refine tail_take 4 (v := ?_) rfl (by kernel_rfl) (by kernel_rfl) (by kernel_rfl) (by kernel_rfl) (fun _ _ _ h => h) (by rfl) (fun u hu => ?_) (by assumption) ?_
                      rotate_left
                      focus ((try dsimp only at hu); obtain ⟨u0, u1⟩ := hu; go_simp; (try with_reducible rfl); done)
                      try simp only [Act.put]
                      refine tail_take 5 (v := ?_) rfl (by kernel_rfl) (by kernel_rfl) (by kernel_rfl) (by kernel_rfl) (fun _ _ _ h => h) (by rfl) (fun u hu => ?_) (by assumption) ?_
                      rotate_left
                      focus ((try dsimp only at hu); obtain ⟨u0, u1⟩ := hu; go_simp; (try with_reducible rfl); done)
                      try simp only [Act.put]
                      refine tail_step 6 (by kernel_rfl) rfl (fun K hK => ?_)
                      go_simp
                      refine hK.out _ _ (by exact ⟨hm2, hm3⟩) (fun hHeld6 => ?_)
                      clear hK K
                      try simp only [Act.put]
                      refine tail_step 7 (by kernel_rfl) rfl (fun K hK => ?_)
                      refine step_append_sl _ (by rfl) _ _ 23 (by rfl) (P + 1) 3 j0 _ 1 8 Tryd.underlying23 hj hy0 hy1 hy2 rfl (by decide) (.slice S m kc) m _ (by rfl) how.out (some ⟨wr.heap.size, 0, none⟩) 1 1 _ (by rfl) hsl.out (by unfold maxLen; omega) (by omega) (Nat.le_trans (show P + 1 ≤ wr.heap.size from hPy) HALS.out) ?_
                      intro v5 w5 hap
                      obtain ⟨q5, c5, rfl, _, hq5, hq5b⟩ := own_form hap.1 (by omega)
                      have hoffb : ∀ l, (Value.slice S m kc).ownBlock = some l → P + 1 ≤ l := fun l hl => (HOY.out.lt l hl).1
                      have hF5 := Lib.hid (grownBy_heap hap.2.1 hbal.out (fun e => by have := hoffb P e; omega))
                      have r2 := cell_of_heap hF5.out 2
                      have r3 := hap.2.1.cell (a := ⟨q, o + i2, none⟩) hm3 (fun e => by have := hoffb _ e.symm; simp only at this; have h9 := World.block_lt_of_cell? wr ⟨q, o + i2, none⟩ cd; have h1 := World.block_lt_of_cell? w1 ⟨q, o + i, none⟩ (by
                          obtain ⟨q', o', e', hk⟩ := HSC.out.2.2 (by omega)
                          cases e'
                          exact hk i _ (by rw [intCells, List.getElem?_map, hc]; rfl)); simp only at h1; omega)
                      have fr := frozen_of_heap hF5.out 2
                      have HAP := Lib.hid hap
                      clear hap
                      refine hK.out _ _ (by exact ⟨r2, r3⟩) (fun hHeld7 => ?_)
                      clear hK K
                      try simp only [Act.put]
                      refine tail_step 8 (by kernel_rfl) rfl (fun K hK => ?_)
                      go_simp
                      refine hK.out _ _ (by exact ⟨r2, r3⟩) (fun hHeld8 => ?_)
                      clear hK K
                      try simp only [Act.put]
                      refine tail_last (by kernel_rfl) rfl (fun K hK => ?_)
                      go_simp
                      refine hK.out _ _ ?_
                      clear hK K
                      refine tail_done (by kernel_rfl) ?_
                      go_wp2_with fail
                      go_roundw
                      case rel =>
                        have e : (set ++ [d]).length = m + 1 := by rw [List.length_append, HM.out]; rfl
                        have e9 : intCells (set ++ [d]) = intCells set ++ [.int .i64 d] := by simp [intCells]
                        have hoffb : ∀ l, (Value.slice S m kc).ownBlock = some l → P + 1 ≤ l := fun l hl => (HOY.out.lt l hl).1
                        have hwrP := HPE.out
                        have hg5 : wo.grownBy w5 none := grownBy_trans (grownBy_trans HGY.out HAL2.out nofun) HAP.out.2.1 (fun l hl => .inr (by have := hoffb l hl; omega))
                        refine ⟨i2 + 1, m + 1, c5, some ⟨q5, 0, none⟩, set ++ [d], by go_num, by omega, by omega, e, by omega, HRUN7.out, heap_setCell hF5.out 2 _, ?_, grownBy_setCell hg5 P 2 _ (.inr (by omega))⟩
                        rw [e9]
                        exact ownsRow_setCell HAP.out.1 (fun e => by have h9 : q5 = P := Option.some.inj e; omega) 2 _
                      case measure => simp [RowKit.intOf]; omega
                    · have hcc : ∀ d, cs[i2]? = some d → d = 93 := fun d hd => Classical.byContradiction fun h => hgo ⟨d, hd, h⟩
                      clear hgo
                      have cs2 := cell_of_heap HBY.out 2
                      have hfalse : g = false → P9Res L s w (.returned (.tuple #[.slice none 0 0, .bool false])) wr := fun e => ⟨grownBy_trans HG1.out (grownBy_trans HP.out.grown HGY.out nofun) nofun, .inr ⟨rfl, HG9.out.trans e⟩⟩
                      have HFA := Lib.hid hfalse
                      clear hfalse
                      rcases Nat.lt_or_ge i2 N with hlt2 | hge2
                      · obtain ⟨d, hd⟩ : ∃ d, cs[i2]? = some d := ⟨_, List.getElem?_eq_getElem (by rw [HN.out]; exact hlt2)⟩
                        obtain rfl := hcc d hd
                        have e1 : (i2 : Int) < (N : Int) := by omega
                        have e1d : decide ((i2 : Int) < (N : Int)) = true := decide_eq_true e1
                        have e1e : decide ((N : Int) ≤ (i2 : Int)) = false := decide_eq_false (by omega)
                        have cd := HCQ.out wr HGY.out i2 93 hd
                        have hr7 := HRUN6.out
                        rw [drop_consI hd] at hr7
                        have hr8 : (decide (1 ≤ m) && run9 (n + 1) 0 (cs.drop (i2 + 1))) = g := hr7
                        have HRUN8 := Lib.hid hr8
                        clear hd hcc hr7 hr8
                        rcases Nat.eq_zero_or_pos m with rfl | hmp
                        · have HGF := Lib.hid (show g = false from HRUN8.out.symm)
                          go_wp2_with fail
                          go_ret2
                          exact HFA.out HGF.out
                        · have hr9 := HRUN8.out
                          rw [decide_eq_true (show 1 ≤ m from hmp), Bool.true_and] at hr9
                          have HRUN9 := Lib.hid hr9
                          clear hr9
                          have e4 : ((m : Int) == 0) = false := by rw [beq_eq_false_iff_ne]; omega
                          have cs0 := cell_of_heap HBY.out 0
                          have cs1 := cell_of_heap HBY.out 1
                          have hal := World.grownBy_alloc wr (.cells #[.bool false, .bool neg, .slice S m kc] 48) none
                          have hsl := Sl.of_own (World.ownsRow_lit (base := 0) (size := 3) (e := 48) wr #[.bool false, .bool neg, .slice S m kc] 1 (Nat.zero_le _) (by decide) rfl) (by intro x hx; simp at hx; rcases hx with rfl | rfl | rfl <;> rfl)
                          have hgw := grownBy_trans HGY.out hal nofun
                          have hown := (HP.out.kept hgw).own
                          have hset := (Sl.of_own HOY.out (by intro x hx; obtain ⟨d, _, rfl⟩ := List.mem_map.1 hx; rfl)).kept hal nofun
                          have hitat : ItAt (wr.alloc (.cells #[.bool false, .bool neg, .slice S m kc] 48)) wo.heap.size L ⟨false, neg, S, kc, set⟩ := by
                            refine ⟨by rw [HM.out]; exact hset, by rw [HM.out]; omega, fun b hb => ?_⟩
                            rw [HM.out]
                            intro _ a ha
                            obtain ⟨q5, c5, e, _, h5, _⟩ := own_form HOY.out hmp
                            cases e
                            cases ha
                            have := HPE.out
                            simp only; omega
                          have HITAT := Lib.hid hitat
                          have HSL := Lib.hid hsl
                          have HGW := Lib.hid hgw
                          have HOW := Lib.hid hown
                          have hwr2 := hgw.size
                          have HWR2 := Lib.hid hwr2
                          clear hal hsl hgw hown hset hitat hwr2
                          have hrow : It.row ⟨false, neg, S, kc, set⟩ = [.bool false, .bool neg, .slice S m kc] := by rw [It.row, HM.out]
                          have HROW := Lib.hid hrow
                          clear hrow
                          go_wp2_with (at_builtin; refine wpList_append_sl _ rfl (.tmp 94) (.tmp 96) 49 rfl w1.heap.size 48 i0 _ 3 32 Tryd.underlying49 hi hz0 hz1 hz2 rfl (by decide) (.slice B n kb) n _ rfl HOW.out (some ⟨wr.heap.size, 0, none⟩) 1 1 [.bool false, .bool neg, .slice S m kc] rfl HSL.out (by unfold maxLen; omega) (by omega) (by have := HWR2.out; omega) ?_)
                          rintro v' w' hap
                          obtain ⟨q', k', rfl, hp'⟩ := HP.out.push (v' := v') (w' := w') HGW.out HITAT.out (by rw [HROW.out]; exact hap)
                          have HP' := Lib.hid hp'
                          clear hp' hap
                          go_wp2_with fail
                          go_roundw
                          case rel => exact ⟨some ⟨q', 0, none⟩, n + 1, k', i2 + 1, _, by go_num, by omega, rfl, by omega, HP'.out, HRUN9.out⟩
                          case measure => simp [RowKit.intOf]; omega
                      · obtain rfl : i2 = N := by omega
                        have e1 : ¬ (i2 : Int) < (i2 : Int) := by omega
                        have hr7 := HRUN6.out
                        rw [List.drop_of_length_le (Nat.le_of_eq HN.out)] at hr7
                        have HGF := Lib.hid (show g = false from hr7.symm)
                        clear hcc hr7
                        go_wp2_with fail
                        go_ret2
                        exact HFA.out HGF.out
            · have d3 : (c == 91) = false := by rw [beq_eq_false_iff_ne]; exact h3
              have HRUN3 := Lib.hid (show run9 (n + 1) 0 (cs.drop (i + 1)) = g by
                rw [← HRUN2.out]
                show _ = (if c = 46 then run9 (n + 1) 0 (cs.drop (i + 1)) else if c = 93 then false else if c = 91 then run9 n 1 (cs.drop (i + 1)) else run9 (n + 1) 0 (cs.drop (i + 1)))
                rw [if_neg h1, if_neg h2, if_neg h3])
              have hga := World.grownBy_alloc wr (.cells #[.int .i64 c] 3) none
              have hgb := World.grownBy_alloc (wr.alloc (.cells #[.int .i64 c] 3)) (.cells #[.bool false, .bool false, .slice (some ⟨wr.heap.size, 0, none⟩) 1 1] 48) none
              have hset := Sl.of_own (World.ownsRow_lit (base := 0) (size := 1) (e := 3) wr #[.int .i64 c] 1 (Nat.zero_le _) (by decide) rfl) (by intro x hx; simp at hx; subst hx; rfl)
              have hset2 := hset.kept hgb nofun
              have hsl := Sl.of_own (World.ownsRow_lit (base := 0) (size := 3) (e := 48) (wr.alloc (.cells #[.int .i64 c] 3)) #[.bool false, .bool false, .slice (some ⟨wr.heap.size, 0, none⟩) 1 1] 1 (Nat.zero_le _) (by decide) rfl) (by intro x hx; simp at hx; rcases hx with rfl | rfl | rfl <;> rfl)
              rw [World.size_alloc] at hsl
              have hgab := grownBy_trans hga hgb nofun
              have hown := (HP.out.kept hgab).own
              have HSET := Lib.hid hset2
              have HSL := Lib.hid hsl
              have HGAB := Lib.hid hgab
              have HOW := Lib.hid hown
              clear hga hgb hset hset2 hsl hgab hown
              go_wp2_with (at_builtin; refine wpList_append_sl _ rfl (.tmp 26) (.tmp 33) 49 rfl w1.heap.size 48 i0 _ 3 32 Tryd.underlying49 hi hz0 hz1 hz2 rfl (by decide) (.slice B n kb) n _ rfl HOW.out (some ⟨wr.heap.size + 1, 0, none⟩) 1 1 (It.row ⟨false, false, some ⟨wr.heap.size, 0, none⟩, 1, [c]⟩) rfl HSL.out (by unfold maxLen; omega) (by omega) (by simp; omega) ?_)
              rintro v' w' hap
              obtain ⟨q', k', rfl, hp'⟩ := HP.out.push HGAB.out (x := ⟨false, false, some ⟨wr.heap.size, 0, none⟩, 1, [c]⟩) ⟨HSET.out, by show 1 ≤ L; omega, fun b hb _ a ha => by cases ha; simp only; omega⟩ hap
              have HP' := Lib.hid hp'
              clear hp' hap
              go_wp2_with fail
              go_roundw
              case rel => exact ⟨some ⟨q', 0, none⟩, n + 1, k', i + 1, _, by go_num, by omega, rfl, by omega, HP'.out, HRUN3.out⟩
              case measure => simp [RowKit.intOf]; omega
      · obtain rfl : i = N := by omega
        have hret : P9Res L s w (.returned (.tuple #[.slice B n kb, .bool true])) wr := by
          refine ⟨grownBy_trans HG1.out HP.out.grown nofun, .inl ⟨B, n, kb, its, rfl, HP.out.len, by omega, ⟨by rw [HP.out.len]; exact Sl.of_own HP.out.own (itCells_one its), fun x hx => (HP.out.ats x hx).1⟩, fun b hb => ⟨fun h a ha => ?_, fun x hx => (HP.out.ats x hx).2.2 b (by have := HG1.out.size; omega)⟩, fun x hx => (HP.out.ats x hx).2.1⟩⟩
          obtain ⟨q', c', e, _, h5, _⟩ := own_form HP.out.own h
          cases e
          cases ha
          have := HG1.out.size
          simp only; omega
        have HR := Lib.hid hret
        clear hret
        have hng : ¬ (i : Int) < (i : Int) := by omega
        have hr7 := HRUN.out
        rw [List.drop_of_length_le (Nat.le_of_eq HN.out)] at hr7
        have HRUN7 := Lib.hid (show (decide (1 ≤ n) && decide (n ≤ 8)) = g from hr7)
        clear hr7
        rcases (show n = 0 ∨ (1 ≤ n ∧ n ≤ 8) ∨ 8 < n by omega) with h | h | h
        · subst h
          have HGF := Lib.hid (HG9.out.trans (show g = false from HRUN7.out.symm))
          go_wp2_with fail
          go_ret2
          exact ⟨grownBy_trans HG1.out HP.out.grown nofun, .inr ⟨rfl, HGF.out⟩⟩
        · have e1 : ((n : Int) == 0) = false := by rw [beq_eq_false_iff_ne]; omega
          have e2 : ¬ (8 : Int) < (n : Int) := by omega
          have e3 : decide ((8 : Int) < (n : Int)) = false := decide_eq_false e2
          go_wp2_with fail
          go_ret2
          exact HR.out
        · have e1 : ((n : Int) == 0) = false := by rw [beq_eq_false_iff_ne]; omega
          have e2 : (8 : Int) < (n : Int) := by omega
          have e3 : decide ((8 : Int) < (n : Int)) = true := decide_eq_true e2
          have hr7 := HRUN7.out
          rw [decide_eq_false (show ¬ n ≤ 8 by omega), Bool.and_false] at hr7
          have HGF := Lib.hid (HG9.out.trans hr7.symm)
          clear hr7
          go_wp2_with fail
          go_ret2
          exact ⟨grownBy_trans HG1.out HP.out.grown nofun, .inr ⟨rfl, HGF.out⟩⟩
  · have HGF := Lib.hid (show good9 s = false by unfold good9; rw [hcs])
    clear hcs
    go_wp2_with fail
    go_ret2
    exact ⟨hg1, .inr ⟨rfl, HGF.out⟩⟩
end Go.Proofs.YtlbbjcggjmaehaaDoor
