/-
  cond.asks: questions, one an item: the walk. Conditions: at most 100000 items.
-/
import Derived.Test.YtlbbjcggjmaehaaDoorClP
import Derived.Test.YtlbbjcggjmaehaaDoorTail
import Derived.Laws.EntriesVeiled
namespace Go.Proofs.YtlbbjcggjmaehaaDoor
open Go Go.RowKit Go.Maps

theorem ask_info : (Tryd.prog.info? 119).map (fun i => (i.zero, i.size, i.bytes)) = some (some (.agg #[.nilFunc]), 1, 8) := by kernel_rfl

def askV (b : Nat) : Value := .func (.func 90) #[] #[.pointer (some ⟨b, 0, none⟩)]
def askCells (bs : List Nat) : List Value := bs.map askV
def itObj (x : It) : Obj := .cells #[.bool x.any, .bool x.neg, .slice x.S x.set.length x.cap] 48 (0, 0)

def AsksIn (w : World) (bs : List Nat) (l : List It) : Prop := bs.length = l.length ∧ ∀ (i b : Nat) (x : It), bs[i]? = some b → l[i]? = some x → w.heap[b]? = some (itObj x)

theorem own_ne_item {w : World} {base n : Nat} {v : Value} {xs : List Value} {b : Nat} {x : It} (h : w.ownsRow base 119 1 v n xs) (hb : w.heap[b]? = some (itObj x)) : v.ownBlock ≠ some b := by
  intro e
  rcases h.2 with ⟨rfl, _⟩ | ⟨g, cap, cur, rfl, _, hg, _⟩
  · cases e
  · cases e
    rw [hb] at hg
    cases hg

theorem AsksIn.kept {w w' : World} {bs : List Nat} {l : List It} (h : AsksIn w bs l) {r : Option Nat} (g : w.grownBy w' r) (hr : ∀ b x, w.heap[b]? = some (itObj x) → r ≠ some b) : AsksIn w' bs l :=
  ⟨h.1, fun i b x hb hx => grownBy_heap g (h.2 i b x hb hx) (hr b x (h.2 i b x hb hx))⟩

def AskRes (l : List It) (w : World) (e : Ending) (w' : World) : Prop :=
  ∃ (bs : List Nat) (A : Option Addr) (c : Nat), e = .returned (.slice A l.length c) ∧ w'.ownsRow w.heap.size 119 1 (.slice A l.length c) l.length (askCells bs) ∧ AsksIn w' bs l ∧ w.grownBy w' none

def AskRel (l : List It) (w : World) (n : Nat) (lv kv : Value) (wr : World) : Prop :=
  ∃ (k c : Nat) (A : Option Addr) (bs : List Nat), k ≤ n ∧ kv = .int .i64 (k : Int) ∧ lv = .slice A k c ∧ wr.ownsRow w.heap.size 119 1 (.slice A k c) k (askCells bs) ∧ AsksIn wr bs (l.take k) ∧ w.grownBy wr none

set_option maxRecDepth 100000 in
set_option maxHeartbeats 2000000 in
theorem asks_walk (l : List It) (C : Option Addr) (n cap : Nat) (w : World) (hn : l.length = n) (hb : n ≤ 100000) (h : CondAt w C l) : Calls Tryd.prog 81 #[.slice C n cap] w (AskRes l w) := by
  obtain ⟨i0, hi, hz0, hz1, hz2⟩ := info_parts ask_info
  have HN := Lib.hid hn
  have H := Lib.hid h
  clear hn h
  go_enter Tryd.func81, Tryd.ntmps81
  go_wp2_with fail
  go_loopw [3, 8] (fun lv kv wr => AskRel l w n lv kv wr) (fun _ kv _ => n - (intOf kv).toNat)
  case atStart => exact ⟨0, 0, none, [], Nat.zero_le _, rfl, rfl, World.ownsRow_nil _ _ _ _, ⟨by simp, by simp⟩, grownBy_refl _ _⟩
  case round =>
    obtain ⟨k, c, A, bs, hk, rfl, rfl, hown, hin, hg⟩ := hrel
    rcases Nat.lt_or_ge k n with hlt | hge
    · have hlti : (k : Int) < (n : Int) := by omega
      obtain ⟨x, hx⟩ : ∃ x, l[k]? = some x := ⟨_, List.getElem?_eq_getElem (by rw [HN.out]; exact hlt)⟩
      obtain ⟨q, o, rfl, c0, c1, c2⟩ := it_cell (H.out.kept hg) hx
      obtain ⟨xa, hxa⟩ : ∃ xa, x.any = xa := ⟨_, rfl⟩
      obtain ⟨xn, hxn⟩ : ∃ xn, x.neg = xn := ⟨_, rfl⟩
      obtain ⟨xs, hxs⟩ : ∃ xs, x.S = xs := ⟨_, rfl⟩
      obtain ⟨xl, hxl⟩ : ∃ xl, x.set.length = xl := ⟨_, rfl⟩
      obtain ⟨xc, hxc⟩ : ∃ xc, x.cap = xc := ⟨_, rfl⟩
      rw [hxa] at c0; rw [hxn] at c1; rw [hxs, hxl, hxc] at c2
      have hob : itObj x = .cells #[.bool xa, .bool xn, .slice xs xl xc] 48 (0, 0) := by unfold itObj; rw [hxa, hxn, hxs, hxl, hxc]
      have HOB := Lib.hid hob
      have HX := Lib.hid hx
      have hga := World.grownBy_alloc wr (.cells #[.bool xa, .bool xn, .slice xs xl xc] 48) none
      have hgb := World.grownBy_alloc (wr.alloc (.cells #[.bool xa, .bool xn, .slice xs xl xc] 48)) (.cells #[askV wr.heap.size] 119) none
      have hgab := grownBy_trans hga hgb nofun
      have hown2 := ownsRow_kept hown hgab (own_none _)
      have hsl := Sl.of_own (World.ownsRow_lit (base := 0) (size := 1) (e := 119) (wr.alloc (.cells #[.bool xa, .bool xn, .slice xs xl xc] 48)) #[askV wr.heap.size] 1 (Nat.zero_le _) (by decide) rfl) (by intro x hx; simp at hx; subst hx; rfl)
      simp only [World.size_alloc] at hsl
      have hin2 := hin.kept hgab (fun _ _ => nofun)
      have hnew := grownBy_heap hgb (heap_alloc_new wr (.cells #[.bool xa, .bool xn, .slice xs xl xc] 48 (0, 0))) nofun
      have HNEW := Lib.hid hnew
      have HIN := Lib.hid hin2
      have hwr := hg.size
      have HG := Lib.hid hg
      have HGAB := Lib.hid hgab
      have HO2 := Lib.hid hown2
      have HSL := Lib.hid hsl
      clear hob hx hga hgb hgab hown2 hsl hin2 hnew hg hin hown hxa hxn hxs hxl hxc
      go_wp2_with (at_builtin; refine wpList_append_sl _ rfl (.tmp 12) (.tmp 15) 116 rfl w.heap.size 119 i0 _ 1 8 Tryd.underlying116 hi hz0 hz1 hz2 rfl (by decide) (.slice A k c) k _ rfl HO2.out (some ⟨wr.heap.size + 1, 0, none⟩) 1 1 [askV wr.heap.size] rfl HSL.out (by unfold maxLen; omega) (by omega) (by simp; omega) ?_)
      rintro v' w' ⟨hown', hg', hat⟩
      obtain ⟨q', c', rfl, _⟩ := own_form hown' (by omega)
      have hgw : w.grownBy w' none := grownBy_trans (grownBy_trans HG.out HGAB.out nofun) hg' (fun l hl => .inr (HO2.out.lt l hl).1)
      go_wp2_with fail
      go_roundw
      case rel =>
        have hlen : bs.length = k := by have := HIN.out.1; rw [List.length_take, HN.out] at this; omega
        have e1 : askCells (bs ++ [wr.heap.size]) = askCells bs ++ [askV wr.heap.size] := by simp [askCells]
        have e2 : l.take (k + 1) = l.take k ++ [x] := by rw [List.take_add_one, HX.out]; rfl
        have hin3 := HIN.out.kept hg' (fun b y hb => own_ne_item HO2.out hb)
        refine ⟨k + 1, c', some ⟨q', 0, none⟩, bs ++ [wr.heap.size], by omega, by go_num, rfl, by rw [e1]; exact hown', ⟨by rw [e2, List.length_append, List.length_append, hin3.1]; rfl, fun i b y hb hy => ?_⟩, hgw⟩
        · rw [e2] at hy
          rcases Nat.lt_or_ge i k with hik | hik
          · rw [List.getElem?_append_left (by omega)] at hb
            rw [List.getElem?_append_left (by rw [List.length_take, HN.out]; omega)] at hy
            exact hin3.2 i b y hb hy
          · rw [List.getElem?_append_right (by omega)] at hb
            rw [List.getElem?_append_right (by rw [List.length_take, HN.out]; omega)] at hy
            have hi0 : i - bs.length = 0 := by
              rcases Nat.eq_zero_or_pos (i - bs.length) with h | h
              · exact h
              · rw [List.getElem?_eq_none (by simp; omega)] at hb; cases hb
            have hi1 : i - (l.take k).length = 0 := by rw [List.length_take, HN.out]; omega
            rw [hi0] at hb; rw [hi1] at hy
            simp at hb hy
            subst hb hy
            have hnew := HNEW.out
            have hne := own_ne_item (x := x) HO2.out (by rw [HOB.out]; exact hnew)
            rw [HOB.out]
            exact grownBy_heap hg' hnew hne
      case measure => simp [intOf]; omega
    · obtain rfl : k = n := by omega
      rw [← HN.out, List.take_length] at hin
      have HIN := Lib.hid hin
      have HO := Lib.hid hown
      have HG := Lib.hid hg
      clear hin hown hg
      go_wp2_with fail
      go_ret
      refine ⟨bs, A, c, ?_, by rw [HN.out]; exact HO.out, HIN.out, HG.out⟩
      rw [HN.out]; rfl
end Go.Proofs.YtlbbjcggjmaehaaDoor
