/-
  slices.IndexFunc, slices.DeleteFunc over offers, of those without a word. Conditions: a row of at most 2^31 offers.
-/
import Derived.Test.YtdcdhcgfhapbnaaDoorSgC
import Derived.Lib.SliceRun
namespace Go.Proofs.YtdcdhcgfhapbnaaDoor.Sg
open Go Go.RowKit

theorem of_info : (Tryd.prog.info? 41).map (fun i => (i.zero, i.size, i.bytes)) = some (some (.agg #[.string ⟨#[]⟩, .int .i64 0]), 2, 24) := by kernel_rfl

theorem rowO_one (l : List Of) : ∀ x ∈ rowO l, x.oneCell' = true := fun x hx => by
  induction l with
  | nil => cases hx
  | cons s l ih =>
    rcases List.mem_cons.1 hx with rfl | hx
    · rfl
    · rcases List.mem_cons.1 hx with rfl | hx
      · rfl
      · exact ih hx

theorem rowO_append : ∀ l m : List Of, rowO (l ++ m) = rowO l ++ rowO m
  | [], _ => rfl
  | s :: l, m => by show _ :: _ :: rowO (l ++ m) = _; rw [rowO_append l m]; rfl

theorem rowO_at : ∀ (l : List Of) (j : Nat) (hj : j < l.length), (rowO l)[j * 2]? = some (.string ⟨l[j].1.toArray⟩) ∧ (rowO l)[j * 2 + 1]? = some (.int .i64 (l[j].2 : Int))
  | s :: l, 0, _ => ⟨rfl, rfl⟩
  | s :: l, j + 1, h => by
    have ih := rowO_at l j (by simpa using h)
    have e0 : (rowO (s :: l))[(j + 1) * 2]? = (rowO l)[j * 2]? := by
      rw [show (j + 1) * 2 = j * 2 + 1 + 1 by omega]; rfl
    have e1 : (rowO (s :: l))[(j + 1) * 2 + 1]? = (rowO l)[j * 2 + 1]? := by
      rw [show (j + 1) * 2 + 1 = j * 2 + 1 + 1 + 1 by omega]; rfl
    rw [e0, e1]
    exact ih

theorem rowO_set : ∀ (l : List Of) (j : Nat) (x : Of), j < l.length → ((rowO l).set (j * 2) (.string ⟨x.1.toArray⟩)).set (j * 2 + 1) (.int .i64 (x.2 : Int)) = rowO (l.set j x)
  | s :: l, 0, x, _ => rfl
  | s :: l, j + 1, x, h => by
    have ih := rowO_set l j x (by simpa using h)
    rw [show (j + 1) * 2 = j * 2 + 1 + 1 by omega, List.set_cons_succ]
    show _ :: _ :: ((rowO l).set (j * 2) _).set (j * 2 + 1) _ = _
    rw [ih]
    rfl

theorem rowO_take : ∀ (l : List Of) (m : Nat), (rowO l).take (m * 2) = rowO (l.take m)
  | [], m => by simp [rowO]
  | s :: l, 0 => rfl
  | s :: l, m + 1 => by
    rw [show (m + 1) * 2 = m * 2 + 1 + 1 by omega]
    show _ :: _ :: (rowO l).take (m * 2) = _
    rw [rowO_take l m]
    rfl

theorem own_set {w : World} {base : Nat} {e : TypeId} {size n cap q : Nat} {xs : List Value} (h : w.ownsRow base e size (.slice (some ⟨q, 0, none⟩) n cap) n xs) (k : Nat) (hk : k < n * size) (u : Value) : (w.setCell ⟨q, k, none⟩ u).ownsRow base e size (.slice (some ⟨q, 0, none⟩) n cap) n (xs.set k u) := by
  refine ⟨by rw [List.length_set]; exact h.1, ?_⟩
  rcases h.2 with ⟨hv, _⟩ | ⟨g, cap', cur, hv, hb, hh, h1, h2, h3, h4⟩
  · cases hv
  · cases hv
    refine .inr ⟨q, cap, cur.setIfInBounds k u, rfl, hb, heap_setCell hh k u, h1, h2, by simpa using h3, ?_⟩
    rw [Array.toList_setIfInBounds, List.take_set, h4]

/-- A row cut back. -/
theorem own_back {w : World} {base : Nat} {e : TypeId} {size n m cap q : Nat} {xs : List Value} (h : w.ownsRow base e size (.slice (some ⟨q, 0, none⟩) n cap) n xs) (hm : m ≤ n) : w.ownsRow base e size (.slice (some ⟨q, 0, none⟩) m cap) m (xs.take (m * size)) := by
  have hms : m * size ≤ n * size := Nat.mul_le_mul_right _ hm
  refine ⟨by rw [List.length_take, h.1]; omega, ?_⟩
  rcases h.2 with ⟨hv, _⟩ | ⟨g, cap', cur, hv, hb, hh, h1, h2, h3, h4⟩
  · cases hv
  · cases hv
    refine .inr ⟨q, cap, cur, rfl, hb, hh, by omega, h2, h3, ?_⟩
    rw [← h4, List.take_take, Nat.min_eq_left hms]

/-- A store behind it. -/
theorem own_out {w : World} {base : Nat} {e : TypeId} {size m cap q : Nat} {xs : List Value} (h : w.ownsRow base e size (.slice (some ⟨q, 0, none⟩) m cap) m xs) (o : Nat) (ho : m * size ≤ o) (u : Value) : (w.setCell ⟨q, o, none⟩ u).ownsRow base e size (.slice (some ⟨q, 0, none⟩) m cap) m xs := by
  refine ⟨h.1, ?_⟩
  rcases h.2 with ⟨hv, _⟩ | ⟨g, cap', cur, hv, hb, hh, h1, h2, h3, h4⟩
  · cases hv
  · cases hv
    refine .inr ⟨q, cap, cur.setIfInBounds o u, rfl, hb, heap_setCell hh o u, h1, h2, by simpa using h3, ?_⟩
    rw [Array.toList_setIfInBounds, List.take_set_of_le ho, h4]

theorem own_outs {base : Nat} {e : TypeId} {size m cap q : Nat} {xs : List Value} : ∀ (vs : List Value) (o : Nat) (w : World), w.ownsRow base e size (.slice (some ⟨q, 0, none⟩) m cap) m xs → m * size ≤ o → (w.setCells q o vs).ownsRow base e size (.slice (some ⟨q, 0, none⟩) m cap) m xs
  | [], _, _, h, _ => h
  | v :: vs, o, w, h, ho => own_outs vs (o + 1) _ (own_out h o ho v) (by omega)

theorem grownBy_setCells {a : World} {q : Nat} : ∀ (vs : List Value) (o : Nat) (w : World), a.grownBy w (some q) → a.grownBy (w.setCells q o vs) (some q)
  | [], _, _, h => h
  | v :: vs, o, w, h => grownBy_setCells vs (o + 1) _ (grownBy_setCell h q o v (.inl rfl))

/-- 'clear' of a slice of elements of any size. -/
theorem run_clear_any {P : Program} (w : World) (t e ty : TypeId) (z : Value) (ht : P.underlying t = some (.slice e)) (hv : ∀ w, (zeroValue e).run P w = .ok z w) (b o n c : Nat) (hn : 0 < n)
    (h1 : ∀ x ∈ (Builtin.zeroCells z.cells n).toList, x.oneCell' = true)
    (hc : ∀ j, j < (Builtin.zeroCells z.cells n).toList.length → (w.cell? ⟨b, o + j, none⟩).isSome = true) (hf : ∀ j, j < (Builtin.zeroCells z.cells n).toList.length → w.frozen? ⟨b, o + j, none⟩ = false) :
    (Builtin.clear_ #[t] ty #[.slice (some ⟨b, o, none⟩) n c]).run P w = .ok (.tuple #[]) (w.setCells b o (Builtin.zeroCells z.cells n).toList) := by
  have hst := run_storeCells_cells (P := P) b o (Builtin.zeroCells z.cells n).toList 0 w (by simpa using hc) (by simpa using hf) h1
  simp only [Nat.add_zero] at hst
  obtain ⟨m, rfl⟩ : ∃ m, n = m + 1 := ⟨n - 1, by omega⟩
  simp [Builtin.clear_, run_underlying ht, hv, hst]

def emptyO (o : Of) : Bool := o.1.isEmpty
def idxO (l : List Of) : Int := match l.findIdx? emptyO with | some i => (i : Int) | none => -1

def IdxRel (l : List Of) (w : World) (iv : Value) (wr : World) : Prop :=
  ∃ i : Nat, i ≤ l.length ∧ iv = .int .i64 (i : Int) ∧ (∀ j (h : j < l.length), j < i → emptyO l[j] = false) ∧ w.grownBy wr none

theorem meas {n j : Nat} (h : j < n) : n - (RowKit.intOf (Value.int .i64 ((j : Int) + 1))).toNat < n - (RowKit.intOf (Value.int .i64 (j : Int))).toNat := by
  simp only [RowKit.intOf]
  omega

set_option maxRecDepth 100000 in
set_option maxHeartbeats 1000000 in
theorem index_walk {A : Option Addr} {c : Nat} (l : List Of) (w : World) (hl : l.length ≤ 2147483648) (h : Sl w 2 A l.length (rowO l)) :
    Calls Tryd.prog 47 #[.slice A l.length c, .func (.func 31) #[] #[]] w fun e w' => e = .returned (.int .i64 (idxO l)) ∧ w.grownBy w' none := by
  have H := Lib.hid h
  clear h
  go_enter Tryd.func47, Tryd.ntmps47
  go_wp2_with fail
  go_loopw [8] (fun iv wr => IdxRel l w iv wr) (fun iv _ => l.length - (RowKit.intOf iv).toNat)
  case atStart => exact ⟨0, Nat.zero_le _, rfl, fun j _ h => absurd h (by omega), grownBy_refl _ _⟩
  case round =>
    obtain ⟨i, hi, rfl, hall, hgr⟩ := hrel
    rcases Nat.lt_or_ge i l.length with hlt | hge
    · have hltI : (i : Int) < (l.length : Int) := Int.ofNat_lt.2 hlt
      obtain ⟨p1, o1, rfl, hc1⟩ := (H.out.kept hgr nofun).2.2 (by omega)
      obtain ⟨r0, r1⟩ := rowO_at l i hlt
      have x0 := hc1 _ _ r0
      have x1 := hc1 _ _ r1
      rw [← Nat.add_assoc] at x1
      have hem := fun w => empty_walk l[i] w
      have HALL := Lib.hid hall
      have HGR := Lib.hid hgr
      have hwi : IntKind.i64.wrap ((i : Int) + 1) = (i : Int) + 1 := by rw [IntKind.wrap_i64]; omega
      by_cases he : emptyO l[i] = true
      · have hidx : idxO l = (i : Int) := by
          unfold idxO
          rw [List.findIdx?_eq_some_iff_getElem.2 ⟨hlt, he, fun j hj => by rw [Bool.not_eq_true]; exact hall j (by omega) hj⟩]
        have HIDX := Lib.hid hidx
        have he' : l[i].1.isEmpty = true := he
        simp only [he'] at hem
        generalize l[i] = s at *
        clear hc1 r0 r1 hidx hall hgr he he'
        go_wp2_with fail
        refine (hem _).mono ?_
        rintro e w2 ⟨rfl, hg2⟩
        have HG2 := Lib.hid (grownBy_trans HGR.out hg2 nofun)
        clear hg2 x0 x1
        go_wp2_with fail
        go_ret
        exact ⟨by rw [HIDX.out]; rfl, HG2.out⟩
      · have he' : l[i].1.isEmpty = false := Bool.eq_false_iff.2 he
        have HE := Lib.hid (show emptyO l[i] = false from he')
        simp only [he'] at hem
        have hnew : ∀ j (h : j < l.length), j < i + 1 → emptyO l[j] = false := fun j h hj => by
          rcases Nat.lt_or_ge j i with h2 | h2
          · exact hall j h h2
          · obtain rfl : j = i := by omega
            exact he'
        have HNEW := Lib.hid hnew
        generalize l[i] = s at *
        clear hc1 r0 r1 hall hgr he he' hnew
        go_wp2_with fail
        refine (hem _).mono ?_
        rintro e w2 ⟨rfl, hg2⟩
        have HG2 := Lib.hid (grownBy_trans HGR.out hg2 nofun)
        clear hg2 x0 x1
        go_wp2_with fail
        go_roundw
        case rel => exact ⟨i + 1, hlt, by simp, HNEW.out, HG2.out⟩
        case measure => exact meas hlt
    · have hb : ¬ (i : Int) < (l.length : Int) := by omega
      have hidx : idxO l = -1 := by
        unfold idxO
        rw [List.findIdx?_eq_none_iff.2 fun x hx => by
          obtain ⟨j, hj, rfl⟩ := List.mem_iff_getElem.1 hx
          exact hall j hj (by omega)]
      have HIDX := Lib.hid hidx
      have HG := Lib.hid hgr
      clear hidx hgr hall
      go_wp2_with fail
      go_ret
      exact ⟨by rw [HIDX.out]; rfl, HG.out⟩
end Go.Proofs.YtdcdhcgfhapbnaaDoor.Sg
