/-
  ref15's Heads, States: the walks. Conditions: few words, short ones.
-/
import Derived.Test.YtdcdhcgfhapbnaaDoorStrs
import Derived.Test.YtdcdhcgfhapbnaaDoorDawgI
namespace Go.Proofs.YtdcdhcgfhapbnaaDoor
open Go Go.RowKit Go.Maps

theorem insU_split : ∀ {L : List Wd} {k : Nat} {s : Wd}, (∀ x ∈ L.take k, x < s) → (∀ x, L[k]? = some x → ¬ x < s) → insU s L = (if L[k]? = some s then L else L.take k ++ [s] ++ L.drop k)
  | [], k, s, _, _ => by simp [insU]
  | y :: L, 0, s, _, h2 => by
    have h3 := h2 y rfl
    unfold insU
    by_cases h : y = s
    · subst h; simp [List.lt_irrefl]
    · have h4 : s < y := wd_lt_of_le_ne (List.not_lt.1 h3) (fun e => h e.symm)
      simp [h4, h]
  | y :: L, k + 1, s, h1, h2 => by
    have h3 : y < s := h1 y (by simp)
    have h4 : ¬ s < y := fun e => List.lt_irrefl _ (List.lt_trans h3 e)
    have h5 : ¬ s = y := fun e => List.lt_irrefl _ (e ▸ h3)
    have ih := insU_split (L := L) (k := k) (s := s) (fun x hx => h1 x (by simp [hx])) (fun x hx => h2 x (by simpa using hx))
    unfold insU
    rw [if_neg h4, if_neg h5, ih]
    simp only [List.getElem?_cons_succ, List.take_succ_cons, List.drop_succ_cons]
    split <;> rfl

theorem put_shut {L : List Wd} {s : Wd} {n k base : Nat} {A3 : Option Addr} {c3 : Nat} {w w3 : World} (hn : L.length = n) (hk : k ≤ n) (he : insU s L = L.take k ++ [s] ++ L.drop k)
    (ho : w3.ownsRow base 9 1 (.slice A3 (k + 1 + (n - k)) c3) (k + 1 + (n - k)) (strCells (L.take k) ++ Value.string ⟨s.toArray⟩ :: strCells (L.drop k))) (hg : w.grownBy w3 none) :
    ∃ A' n' c', Ending.returned (.slice A3 (k + 1 + (n - k)) c3) = Ending.returned (.slice A' n' c') ∧ (insU s L).length = n' ∧ n' ≤ c' ∧ Sl w3 1 A' n' (strCells (insU s L)) ∧ w.grownBy w3 none := by
  have e : strCells (L.take k) ++ Value.string ⟨s.toArray⟩ :: strCells (L.drop k) = strCells (insU s L) := by rw [he]; simp [strCells]
  rw [e] at ho
  refine ⟨A3, _, c3, rfl, ?_, ?_, Sl.of_own ho (strCells_one' _), hg⟩
  · have := ho.1; simp [strCells] at this; exact this
  · rcases ho.2 with ⟨_, h0⟩ | ⟨g, cap, _, hv, _, _, h1, _⟩
    · omega
    · cases hv; exact h1

set_option maxRecDepth 100000 in
set_option maxHeartbeats 1000000 in
theorem put_walk (L : List Wd) (s : Wd) (A : Option Addr) (n c : Nat) (w : World) (hn : L.length = n) (hnc : n ≤ c) (hb : n ≤ 1000000) (h : Sl w 1 A n (strCells L)) :
    Calls Tryd.prog 35 #[.slice A n c, .string ⟨s.toArray⟩] w fun e w' => ∃ A' n' c', e = .returned (.slice A' n' c') ∧ (insU s L).length = n' ∧ n' ≤ c' ∧ Sl w' 1 A' n' (strCells (insU s L)) ∧ w.grownBy w' none := by
  obtain ⟨i0, hi, hz0, hz1, hz2⟩ := info_parts str_info
  have H := Lib.hid h
  have HN := Lib.hid hn
  clear h hn
  go_enter Tryd.func35, Tryd.ntmps35
  have hless : ∀ x : Wd, Op.bytesLess x s = decide (x < s) := fun x => bytesLess_eq x s
  have HLS := Lib.hid hless
  clear hless
  go_upto_block 0 with (fail)
  go_cut [5] (fun kv wx => ∃ k : Nat, k ≤ n ∧ kv = .int .i64 k ∧ wx = w ∧ (∀ x ∈ L.take k, x < s) ∧ ∀ x, L[k]? = some x → ¬ x < s)
  case first =>
    go_wp2_with fail
    go_loopw [5] (fun kv wr => ∃ k : Nat, k ≤ n ∧ kv = .int .i64 k ∧ wr = w ∧ ∀ x ∈ L.take k, x < s) (fun kv _ => n - (intOf kv).toNat)
    case atStart => exact ⟨0, Nat.zero_le _, rfl, rfl, by simp⟩
    case round =>
      obtain ⟨k, hk, rfl, rfl, hlt⟩ := hrel
      have HL := Lib.hid hlt
      clear hlt
      rcases Nat.lt_or_ge k n with hkn | hkn
      · obtain ⟨x, hx⟩ : ∃ x, L[k]? = some x := ⟨_, List.getElem?_eq_getElem (by rw [HN.out]; exact hkn)⟩
        obtain ⟨q, o, rfl, hc⟩ := H.out.str hx
        have HX := Lib.hid hx
        clear hx
        by_cases hxs : x < s
        · have hb1 : Op.bytesLess x s = true := by rw [HLS.out]; exact decide_eq_true hxs
          have HXS := Lib.hid hxs
          clear hxs
          go_wp2_with fail
          go_roundw
          case rel =>
            refine ⟨k + 1, by omega, by go_num, by first | rfl | trivial, fun y hy => ?_⟩
            rw [List.take_add_one, HX.out] at hy
            rcases List.mem_append.1 hy with hy | hy
            · exact HL.out y hy
            · simp at hy; subst hy; exact HXS.out
          case measure => simp [intOf]; omega
        · have hb1 : Op.bytesLess x s = false := by rw [HLS.out]; exact decide_eq_false hxs
          have HXS := Lib.hid hxs
          clear hxs
          go_wp2_with fail
          go_meet
          exact ⟨k, hk, rfl, rfl, HL.out, fun y hy => by rw [HX.out] at hy; cases hy; exact HXS.out⟩
      · obtain rfl : k = n := by omega
        go_wp2_with fail
        go_meet
        exact ⟨k, Nat.le_refl _, rfl, rfl, HL.out, fun y hy => by rw [List.getElem?_eq_none (by rw [HN.out]; exact Nat.le_refl _)] at hy; cases hy⟩
  case rest =>
    obtain ⟨k, hk, rfl, rfl, hlt, hge⟩ := hcut
    have hsp := insU_split hlt hge
    have HSP := Lib.hid hsp
    clear hsp hlt hge
    obtain ⟨eq, heq⟩ : ∃ eq : Bool, eq = decide (L[k]? = some s) := ⟨_, rfl⟩
    have HEQ := Lib.hid heq
    clear heq
    go_upto_region 4 with (fail)
    go_cut [32] (fun b wx => b = .bool eq ∧ wx = wc)
    case first =>
      rcases Nat.lt_or_ge k n with hkn | hkn
      · obtain ⟨x, hx⟩ : ∃ x, L[k]? = some x := ⟨_, List.getElem?_eq_getElem (by rw [HN.out]; exact hkn)⟩
        obtain ⟨q, o, rfl, hc⟩ := H.out.str hx
        have he : eq = decide (x = s) := by rw [HEQ.out, hx]; simp
        have HE := Lib.hid he
        clear he hx
        by_cases hxs : x = s
        · have hb2 : (x == s) = true := by simpa using hxs
          have HXS := Lib.hid hxs
          clear hxs
          go_wp2_with fail
          go_meet
          exact ⟨by rw [HE.out, decide_eq_true HXS.out], rfl⟩
        · have hb2 : (x == s) = false := by simpa using hxs
          have HXS := Lib.hid hxs
          clear hxs
          go_wp2_with fail
          go_meet
          exact ⟨by rw [HE.out, decide_eq_false HXS.out], rfl⟩
      · obtain rfl : k = n := by omega
        have he : eq = false := by rw [HEQ.out, List.getElem?_eq_none (by rw [HN.out]; exact Nat.le_refl _)]; rfl
        have HE := Lib.hid he
        clear he
        go_wp2_with fail
        go_meet
        exact ⟨by rw [HE.out], rfl⟩
    case rest =>
      obtain ⟨rfl, rfl⟩ := hcut
      cases eq
      · have e1 : ¬ L[k]? = some s := of_decide_eq_false HEQ.out.symm
        have e2 := HSP.out
        rw [if_neg e1] at e2
        have HE2 := Lib.hid e2
        have hkc : k ≤ c := by omega
        clear e1 e2
        have hW : WordsAt wc (fun _ => False) A n c L := ⟨HN.out, hnc, by omega, H.out, fun _ h => h.elim⟩
        have ht := Lib.hid (hW.take hk).2.2.2.1
        have hcut : ∀ A' c', n - k ≤ c' → (k < n → A' = A.map (fun x => { block := x.block, off := x.off + k })) → Sl wc 1 A' (n - k) (strCells (L.drop k)) := fun A' c' h1 h2 => (hW.cut hk h1 h2).2.2.2.1
        have HC := Lib.hid hcut
        clear hW hcut
        go_wp2_with (at_builtin; refine wpList_append_sl _ rfl (.const (.slice none 0 0)) (.tmp 36) 22 rfl wc.heap.size 9 i0 _ 1 16 Tryd.underlying22 hi hz0 hz1 hz2 rfl (by decide) (.slice none 0 0) 0 _ rfl (World.ownsRow_nil _ _ _ _) A k c _ rfl ht.out (by unfold maxLen; omega) (by omega) (Nat.le_refl _) ?_)
        rintro v1 w1 ⟨ho1, hg1, _⟩
        obtain ⟨A1, c1, rfl⟩ := own_slice ho1
        have hg1' : wc.grownBy w1 none := hg1
        have hal := World.grownBy_alloc w1 (.cells #[.string ⟨s.toArray⟩] 9) none
        have HO1 := Lib.hid (ownsRow_kept ho1 hal (own_none _))
        have HG1 := Lib.hid (grownBy_trans hg1' hal nofun)
        have hs1 := hg1'.size
        have hsl := Lib.hid (Sl.of_own (World.ownsRow_lit (base := 0) (size := 1) (e := 9) w1 #[.string ⟨s.toArray⟩] 1 (Nat.zero_le _) (by decide) rfl) (by intro x hx; simp at hx; subst hx; rfl))
        clear ho1 hg1 hg1' hal
        go_wp2_with (at_builtin; refine wpList_append_sl _ rfl (.tmp 38) (.tmp 40) 22 rfl wc.heap.size 9 i0 _ 1 16 Tryd.underlying22 hi hz0 hz1 hz2 rfl (by decide) (.slice A1 k c1) k _ rfl HO1.out (some ⟨w1.heap.size, 0, none⟩) 1 1 _ rfl hsl.out (by unfold maxLen; omega) (by omega) (by simp; omega) ?_)
        rintro v2 w2 ⟨ho2, hg2, _⟩
        obtain ⟨A2, c2, rfl⟩ := own_slice ho2
        have HG2 := Lib.hid (grownBy_trans HG1.out hg2 (fun b hb => .inr (HO1.out.lt b hb).1))
        have hs2 := HG2.out.size
        have HO2 := Lib.hid ho2
        clear ho2 hg2
        by_cases hck : c = k
        · have hd := Lib.hid (HC.out A 0 (by omega) (fun hh => by omega))
          go_wp2_with (at_builtin; refine wpList_append_sl _ rfl (.tmp 42) (.tmp 45) 22 rfl wc.heap.size 9 i0 _ 1 16 Tryd.underlying22 hi hz0 hz1 hz2 rfl (by decide) (.slice A2 (k + 1) c2) (k + 1) _ rfl HO2.out A (n - k) 0 _ rfl (hd.out.kept HG2.out nofun) (by unfold maxLen; omega) (by omega) (by omega) ?_)
          rintro v3 w3 ⟨ho3, hg3, _⟩
          obtain ⟨A3, c3, rfl⟩ := own_slice ho3
          have HG3 := Lib.hid (grownBy_trans HG2.out hg3 (fun b hb => .inr (HO2.out.lt b hb).1))
          have HO3 := Lib.hid ho3
          clear ho3 hg3
          go_wp2_with fail
          go_ret
          exact put_shut HN.out hk HE2.out HO3.out HG3.out
        · rcases Nat.lt_or_ge k n with hkn | hkn
          · obtain ⟨q, o, rfl, _⟩ := H.out.2.2 (by omega)
            have hd := Lib.hid (HC.out (some ⟨q, o + k, none⟩) (c - k) (by omega) (fun _ => rfl))
            go_wp2_with (at_builtin; refine wpList_append_sl _ rfl (.tmp 42) (.tmp 45) 22 rfl wc.heap.size 9 i0 _ 1 16 Tryd.underlying22 hi hz0 hz1 hz2 rfl (by decide) (.slice A2 (k + 1) c2) (k + 1) _ rfl HO2.out (some ⟨q, o + k, none⟩) (n - k) (c - k) _ rfl (hd.out.kept HG2.out nofun) (by unfold maxLen; omega) (by omega) (by omega) ?_)
            rintro v3 w3 ⟨ho3, hg3, _⟩
            obtain ⟨A3, c3, rfl⟩ := own_slice ho3
            have HG3 := Lib.hid (grownBy_trans HG2.out hg3 (fun b hb => .inr (HO2.out.lt b hb).1))
            have HO3 := Lib.hid ho3
            clear ho3 hg3
            go_wp2_with fail
            go_ret
            exact put_shut HN.out hk HE2.out HO3.out HG3.out
          · obtain rfl : k = n := by omega
            go_wp2_with (at_builtin; refine wpList_append_sl _ rfl (.tmp 42) (.tmp 45) 22 rfl wc.heap.size 9 i0 _ 1 16 Tryd.underlying22 hi hz0 hz1 hz2 rfl (by decide) (.slice A2 (k + 1) c2) (k + 1) _ rfl HO2.out _ 0 _ [] rfl (Sl.nil _ _ _) (by unfold maxLen; omega) (by omega) (by omega) ?_)
            rintro v3 w3 ⟨ho3, hg3, _⟩
            obtain ⟨A3, c3, rfl⟩ := own_slice ho3
            have HG3 := Lib.hid (grownBy_trans HG2.out hg3 (fun b hb => .inr (HO2.out.lt b hb).1))
            have HO3 := Lib.hid ho3
            clear ho3 hg3
            go_wp2_with fail
            go_ret
            have ed : L.drop k = [] := List.drop_eq_nil_of_le (by rw [HN.out]; exact Nat.le_refl _)
            have hp := put_shut (A3 := A3) (c3 := c3) (base := wc.heap.size) HN.out hk HE2.out (by rw [ed, Nat.sub_self]; exact HO3.out) HG3.out
            rw [Nat.sub_self] at hp
            exact hp
      · have e1 : L[k]? = some s := of_decide_eq_true HEQ.out.symm
        have e2 := HSP.out
        rw [if_pos e1] at e2
        have HE2 := Lib.hid e2
        clear e1 e2
        go_wp2_with fail
        go_ret
        exact ⟨A, n, c, rfl, by rw [HE2.out]; exact HN.out, hnc, by rw [HE2.out]; exact H.out, grownBy_refl _ _⟩
end Go.Proofs.YtdcdhcgfhapbnaaDoor

namespace Go.Proofs.YtdcdhcgfhapbnaaDoor
open Go Go.RowKit Go.Maps

theorem insU_len (s : Wd) : ∀ L : List Wd, (insU s L).length ≤ L.length + 1
  | [] => by simp [insU]
  | y :: L => by
    unfold insU
    split
    · simp
    · split
      · simp
      · simp only [List.length_cons]; have := insU_len s L; omega

theorem fold_take {ss : List Wd} {i : Nat} {s : Wd} (h : ss[i]? = some s) (L : List Wd) : (ss.take (i + 1)).foldl (fun L x => insU x L) L = insU s ((ss.take i).foldl (fun L x => insU x L) L) := by
  rw [List.take_add_one, h, List.foldl_append]; rfl

set_option maxRecDepth 100000 in
set_option maxHeartbeats 1000000 in
theorem sorted_walk (ss : List Wd) (A : Option Addr) (n c : Nat) (w : World) (hn : ss.length = n) (hb : n ≤ 100000) (h : Sl w 1 A n (strCells ss)) :
    Calls Tryd.prog 13 #[.slice A n c] w fun e w' => ∃ A' n' c', e = .returned (.slice A' n' c') ∧ (putAll ss).length = n' ∧ n' ≤ c' ∧ n' ≤ n ∧ Sl w' 1 A' n' (strCells (putAll ss)) ∧ w.grownBy w' none := by
  have H := Lib.hid h
  have HN := Lib.hid hn
  clear h hn
  go_enter Tryd.func13, Tryd.ntmps13
  go_wp2_with fail
  go_loopw [3, 4] (fun mv iv wr => ∃ (i : Nat) (A' : Option Addr) (n' c' : Nat), i ≤ n ∧ iv = .int .i64 i ∧ mv = .slice A' n' c' ∧ ((ss.take i).foldl (fun L x => insU x L) []).length = n' ∧ n' ≤ c' ∧ n' ≤ i ∧ Sl wr 1 A' n' (strCells ((ss.take i).foldl (fun L x => insU x L) [])) ∧ w.grownBy wr none) (fun _ iv _ => n - (intOf iv).toNat)
  case atStart => exact ⟨0, none, 0, 0, Nat.zero_le _, rfl, rfl, rfl, Nat.le_refl _, Nat.le_refl _, Sl.nil _ _ _, grownBy_refl _ _⟩
  case round =>
    obtain ⟨i, A', n', c', hi, rfl, rfl, hl, hnc, hni, hs, hg⟩ := hrel
    have HL := Lib.hid hl
    have HS := Lib.hid hs
    have HG := Lib.hid hg
    clear hl hs hg
    rcases Nat.lt_or_ge i n with hlt | hge
    · obtain ⟨s, hs⟩ : ∃ s, ss[i]? = some s := ⟨_, List.getElem?_eq_getElem (by rw [HN.out]; exact hlt)⟩
      obtain ⟨q, o, rfl, hc⟩ := (H.out.kept HG.out nofun).str hs
      have hft := fold_take hs []
      have HF := Lib.hid hft
      clear hs hft
      go_wp2_with fail
      refine (put_walk _ s A' n' c' wr HL.out hnc (by omega) HS.out).mono ?_
      rintro e w1 ⟨A2, n2, c2, rfl, hl2, hnc2, hs2, hg2⟩
      have hle := insU_len s ((ss.take i).foldl (fun L x => insU x L) [])
      have hn2 : n2 ≤ i + 1 := by have := HL.out; omega
      have HL2 := Lib.hid hl2
      have HS2 := Lib.hid hs2
      have HG2 := Lib.hid hg2
      clear hl2 hs2 hg2 hle
      go_wp2_with fail
      go_roundw
      case rel => exact ⟨i + 1, A2, n2, c2, by omega, by go_num, rfl, by rw [HF.out]; exact HL2.out, hnc2, hn2, by rw [HF.out]; exact HS2.out, grownBy_trans HG.out HG2.out nofun⟩
      case measure => simp [intOf]; omega
    · obtain rfl : i = n := by omega
      have e0 : ss.take i = ss := List.take_of_length_le (by rw [HN.out]; exact Nat.le_refl _)
      have HE := Lib.hid e0
      clear e0
      go_wp2_with fail
      go_ret
      refine ⟨A', n', c', rfl, ?_, hnc, hni, ?_, HG.out⟩
      · have := HL.out; rw [HE.out] at this; exact this
      · have := HS.out; rw [HE.out] at this; exact this

end Go.Proofs.YtdcdhcgfhapbnaaDoor

namespace Go.Proofs.YtdcdhcgfhapbnaaDoor
open Go Go.RowKit Go.Maps

/-- A word's beginnings, from so many bytes on, put into a list. -/
def headStep (x : Wd) (L : List Wd) (k : Nat) : List Wd := insU (x.take (k + 1)) L
def headsOf (L : List Wd) (x : Wd) : List Wd := (List.range x.length).foldl (headStep x) L
/-- All beginnings, rising. -/
def headsS (m : List Wd) : List Wd := m.foldl headsOf [[]]

theorem range_step (x : Wd) (L : List Wd) (k : Nat) : (List.range (k + 1)).foldl (headStep x) L = headStep x ((List.range k).foldl (headStep x) L) k := by
  rw [List.range_succ, List.foldl_append]; rfl

/-- A list of words that a walk holds. -/
def HasW (w : World) (v : Value) (L : List Wd) (m : Nat) (wr : World) : Prop :=
  ∃ A n c, v = .slice A n c ∧ L.length = n ∧ n ≤ c ∧ n ≤ m ∧ Sl wr 1 A n (strCells L) ∧ w.grownBy wr none

theorem mem_headsOf {L : List Wd} {x h : Wd} : ∀ k, h ∈ (List.range k).foldl (headStep x) L ↔ h ∈ L ∨ ∃ j, j < k ∧ h = x.take (j + 1) := by
  intro k
  induction k with
  | zero => simp
  | succ k ih =>
    rw [range_step]
    unfold headStep
    rw [mem_insU]
    have ih' : h ∈ (List.range k).foldl (fun L k => insU (x.take (k + 1)) L) L ↔ h ∈ L ∨ ∃ j, j < k ∧ h = x.take (j + 1) := ih
    show h = _ ∨ h ∈ (List.range k).foldl (fun L k => insU (x.take (k + 1)) L) L ↔ _
    rw [ih']
    constructor
    · rintro (e | e | ⟨j, hj, e⟩)
      · exact .inr ⟨k, by omega, e⟩
      · exact .inl e
      · exact .inr ⟨j, by omega, e⟩
    · rintro (e | ⟨j, hj, e⟩)
      · exact .inr (.inl e)
      · rcases Nat.lt_or_ge j k with h1 | h1
        · exact .inr (.inr ⟨j, h1, e⟩)
        · obtain rfl : j = k := by omega
          exact .inl e

theorem mem_headsS {m : List Wd} {h : Wd} : h ∈ headsS m ↔ h = [] ∨ ∃ x ∈ m, ∃ j, j < x.length ∧ h = x.take (j + 1) := by
  have key : ∀ (m : List Wd) (L : List Wd), h ∈ m.foldl headsOf L ↔ h ∈ L ∨ ∃ x ∈ m, ∃ j, j < x.length ∧ h = x.take (j + 1) := by
    intro m
    induction m with
    | nil => intro L; simp
    | cons x m ih =>
      intro L
      rw [List.foldl_cons, ih]
      unfold headsOf
      rw [mem_headsOf]
      constructor
      · rintro ((e | e) | ⟨y, hy, e⟩)
        · exact .inl e
        · exact .inr ⟨x, by simp, e⟩
        · exact .inr ⟨y, by simp [hy], e⟩
      · rintro (e | ⟨y, hy, e⟩)
        · exact .inl (.inl e)
        · rcases List.mem_cons.1 hy with rfl | hy
          · exact .inl (.inr e)
          · exact .inr ⟨y, hy, e⟩
  rw [headsS, key]; simp

theorem headStep_rise {x : Wd} : ∀ (k : Nat) {L : List Wd}, Rise L → Rise ((List.range k).foldl (headStep x) L)
  | 0, _, h => h
  | k + 1, L, h => by rw [range_step]; exact insU_rise (headStep_rise k h)

theorem headsS_rise (m : List Wd) : Rise (headsS m) := by
  have key : ∀ (m : List Wd) (L : List Wd), Rise L → Rise (m.foldl headsOf L) := by
    intro m
    induction m with
    | nil => intro L h; exact h
    | cons x m ih => intro L h; exact ih _ (headStep_rise x.length h)
  exact key m [[]] (by simp [Rise])

end Go.Proofs.YtdcdhcgfhapbnaaDoor
