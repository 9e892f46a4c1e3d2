/-
  Marks' Edit on lists; over and tail on a tree of two. No conditions beyond those that each lemma names.
-/
import Derived.Test.YtijpienjejfmiaaMkZ
import Derived.Test.YtijpienjejfmiaaMk3
import Derived.Test.YtijpienjejfmiaaMkC2
namespace Go.Proofs.Ytijpienjejfmiaa
open Go Go.RowKit

/-- A span of places up to 2^40. -/
def InG (x : Sp) : Prop := 0 ≤ x.a ∧ x.a < x.b ∧ x.b ≤ 1099511627776
theorem InG.in_ {x : Sp} (h : InG x) : In x := by unfold InG at h; unfold In; omega

theorem mem_remL {X L : List Sp} {x : Sp} : x ∈ remL X L ↔ x ∈ L ∧ x ∉ X := by rw [remL_eq]; simp
theorem ord_remL {X L : List Sp} (h : Ord L) : Ord (remL X L) := by rw [remL_eq]; exact h.filter _
theorem remL_length (X L : List Sp) : (remL X L).length ≤ L.length := by rw [remL_eq]; exact List.length_filter_le ..
theorem mem_overS {f t : Int} {l : List Sp} {x : Sp} : x ∈ overS f t l ↔ x ∈ l ∧ x.a ≤ f ∧ t ≤ x.b := by simp [overS]

/-- What a tail leaves in order. -/
theorem tail_ok {l : List Sp} {f d lo : Int} (ho : Ord l) (hi : ∀ x ∈ l, InG x) (h : ∀ x ∈ l, x.a < f → x.a < lo) (h1 : lo ≤ f + d) (h2 : 0 ≤ f + d) (hd : -1099511627776 ≤ d ∧ d ≤ 1099511627776) : Ord (tailS f d l) ∧ ∀ x ∈ tailS f d l, In x := by
  constructor
  · unfold tailS Ord
    rw [List.pairwise_map]
    refine List.Pairwise.imp_of_mem ?_ ho
    intro x y hx hy hlt
    have h3 := lt_a hlt
    by_cases e1 : f ≤ x.a
    · rw [if_pos e1, if_pos (by omega)]
      exact (Sp.lt_add d).2 hlt
    · rw [if_neg e1]
      by_cases e2 : f ≤ y.a
      · rw [if_pos e2]
        have := h x hx (by omega)
        refine .inl ?_
        show x.a < y.a + d
        omega
      · rw [if_neg e2]
        exact hlt
  · intro x hx
    obtain ⟨y, hy, rfl⟩ := List.mem_map.1 hx
    have := hi y hy
    unfold InG at this
    split
    · unfold In Sp.add
      simp only
      omega
    · exact (hi y hy).in_

/-- Of odd kinds: what is touched goes, what is behind is moved, what is too far goes. -/
def oddA (A D : Int) (L : List Sp) : List Sp := remL (overS (A + D) A L) L
def oddB (A D I : Int) (L : List Sp) : List Sp := tailS (A + D + 1) (I - D) (oddA A D L)
def farL (L : List Sp) : List Sp := overS 9223372036854775807 1099511627777 L
def oddE (A D I : Int) (L : List Sp) : List Sp := remL (farL (oddB A D I L)) (oddB A D I L)

/-- Of even kinds: what lies over the change is cut anew. -/
def evenX (A D : Int) (L : List Sp) : List Sp := overS (max A (A + D - 1)) (A + 1) L
def evenA (A D : Int) (L : List Sp) : List Sp := remL (evenX A D L) L
def evenB (A D I : Int) (L : List Sp) : List Sp := tailS (max (A + 1) (A + D)) (I - D) (evenA A D L)
def clipL (A D I : Int) (X L : List Sp) : List Sp := X.foldl (fun L s => if (clipI A D I s).2 then insS (clipI A D I s).1 L else L) L
def evenC (A D I : Int) (L : List Sp) : List Sp := clipL A D I (evenX A D L) (evenB A D I L)
def evenE (A D I : Int) (L : List Sp) : List Sp := remL (farL (evenC A D I L)) (evenC A D I L)

theorem clipL_take {A D I : Int} {X : List Sp} {j : Nat} (hj : j < X.length) (L : List Sp) : clipL A D I (X.take (j + 1)) L = if (clipI A D I X[j]).2 then insS (clipI A D I X[j]).1 (clipL A D I (X.take j) L) else clipL A D I (X.take j) L := by
  unfold clipL
  rw [List.take_succ_eq_append_getElem hj, List.foldl_append]
  rfl

theorem clipL_length (A D I : Int) : ∀ (X L : List Sp), (clipL A D I X L).length ≤ L.length + X.length
  | [], L => Nat.le_refl _
  | s :: X, L => by
    show (clipL A D I X (if (clipI A D I s).2 then insS (clipI A D I s).1 L else L)).length ≤ _
    refine Nat.le_trans (clipL_length A D I X _) ?_
    simp only [List.length_cons]
    split
    · have := insS_length (clipI A D I s).1 L
      omega
    · omega

theorem odd_tail {A D I : Int} {L : List Sp} (hA : 0 ≤ A ∧ A ≤ 1099511627776) (hD : 0 ≤ D ∧ D ≤ 1099511627776) (hI : 0 ≤ I ∧ I ≤ 1099511627776) (ho : Ord L) (hi : ∀ x ∈ L, InG x) : Ord (oddB A D I L) ∧ ∀ x ∈ oddB A D I L, In x := by
  refine tail_ok (lo := A) (ord_remL ho) (fun x hx => hi x (mem_remL.1 hx).1) (fun x hx hlt => ?_) (by omega) (by omega) (by omega)
  obtain ⟨h1, h2⟩ := mem_remL.1 hx
  have := hi x h1
  unfold InG at this
  have h3 : ¬ (x.a ≤ A + D ∧ A ≤ x.b) := fun h => h2 (mem_overS.2 ⟨h1, h⟩)
  omega

theorem even_tail {A D I : Int} {L : List Sp} (hA : 0 ≤ A ∧ A ≤ 1099511627776) (hD : 0 ≤ D ∧ D ≤ 1099511627776) (hI : 0 ≤ I ∧ I ≤ 1099511627776) (ho : Ord L) (hi : ∀ x ∈ L, InG x) : Ord (evenB A D I L) ∧ ∀ x ∈ evenB A D I L, In x := by
  refine tail_ok (lo := A) (ord_remL ho) (fun x hx => hi x (mem_remL.1 hx).1) (fun x hx hlt => ?_) (by omega) (by omega) (by omega)
  obtain ⟨h1, h2⟩ := mem_remL.1 hx
  have := hi x h1
  unfold InG at this
  have h3 : ¬ (x.a ≤ max A (A + D - 1) ∧ A + 1 ≤ x.b) := fun h => h2 (mem_overS.2 ⟨h1, h⟩)
  omega

theorem place_in {A D I p : Int} (hA : 0 ≤ A ∧ A ≤ 1099511627776) (hD : 0 ≤ D ∧ D ≤ 1099511627776) (hI : 0 ≤ I ∧ I ≤ 1099511627776) : 0 ≤ placeI A D I p ∧ placeI A D I p ≤ 2199023255552 := by
  have := cutI_le p
  unfold placeI
  split
  · omega
  · split
    · omega
    · omega

theorem clip_in {A D I : Int} {s : Sp} (hA : 0 ≤ A ∧ A ≤ 1099511627776) (hD : 0 ≤ D ∧ D ≤ 1099511627776) (hI : 0 ≤ I ∧ I ≤ 1099511627776) (h : (clipI A D I s).2 = true) : In (clipI A D I s).1 ∧ (clipI A D I s).1.k = s.k := by
  have h1 := place_in (p := s.a) hA hD hI
  have h2 := place_in (p := s.b) hA hD hI
  unfold clipI at h ⊢
  split
  · rename_i hle; rw [if_pos hle] at h; cases h
  · refine ⟨?_, rfl⟩
    unfold In
    simp only
    omega

/-- over on one of two trees. -/
theorem overT {mb tb0 tb1 : Nat} {B : List Nat} {L0 L1 : List Sp} {w : World} (h : MkT w mb tb0 tb1 B L0 L1) (i : Bool) (f g : Int) (hg : 0 ≤ g) : ∃ rv, w.heap[two i tb0 tb1]? = some (.cells #[rv, .pointer (some ⟨mb, 2, none⟩)] 59 (0, 0)) ∧
    Calls Try.prog 46 #[.pointer (some ⟨two i tb0 tb1, 0, none⟩), rv, .int .i64 f, .int .i64 g] w fun e w' => ∃ v, e = .returned v ∧ Spans w' w.heap.size v (overS f g (two i L0 L1)) ∧ MkT w' mb tb0 tb1 B L0 L1 ∧ Only B w w' := by
  obtain ⟨T0, T1, st, hm, rfl, rfl, rfl⟩ := h
  refine ⟨ptrV (two i T0 T1), (hm.tr i).t, (over_walk (tb := two i tb0 tb1) (mb := mb) f g hg _ (two i T0 T1) st w (Nat.le_refl _) (hm.good i) (hm.lay i) (hm.nodup i) (hm.tr i) (hm.tbn i) (hm.mbn i)).mono ?_⟩
  rintro e w' ⟨v, T', rfl, hs, q1, q2, q3, q4, q5, q6, ⟨st', q7⟩, q8⟩
  have hstep := (hm.step i q1 (by rw [q4]; exact hm.nodup i) q2 (fun x hx => .inl (q4 ▸ hx)) q7 (congrArg Value.pointer q5.symm) q8 (fun x hx => .inl (List.mem_cons_of_mem _ hx))).1
  refine ⟨v, rfl, by cases i <;> exact hs, ⟨_, _, _, hstep, ?_, ?_, ?_⟩, q8.mono (fun x hx => .inl (two_sub i x (List.mem_cons_of_mem _ hx)))⟩
  · cases i
    · exact q3
    · rfl
  · cases i
    · rfl
    · exact q3
  · cases i
    · show _ = mkB mb tb0 tb1 T' T1
      unfold mkB
      rw [show blks T' = blks T0 from q4]
    · show _ = mkB mb tb0 tb1 T0 T'
      unfold mkB
      rw [show blks T' = blks T1 from q4]

/-- tail on one of two trees. -/
theorem tailT {mb tb0 tb1 : Nat} {B : List Nat} {L0 L1 : List Sp} {w : World} (h : MkT w mb tb0 tb1 B L0 L1) (i : Bool) (f d : Int) (hd : -2199023255552 ≤ d ∧ d ≤ 2199023255552) (hto : Ord (tailS f d (two i L0 L1))) (htp : ∀ x ∈ tailS f d (two i L0 L1), In x) : ∃ rv, w.heap[two i tb0 tb1]? = some (.cells #[rv, .pointer (some ⟨mb, 2, none⟩)] 59 (0, 0)) ∧
    Calls Try.prog 47 #[.pointer (some ⟨two i tb0 tb1, 0, none⟩), rv, .int .i64 f, .int .i64 d] w fun e w' => e = .returned (.tuple #[]) ∧ MkT w' mb tb0 tb1 B (two i (tailS f d L0) L0) (two i L1 (tailS f d L1)) ∧ Only B w w' := by
  obtain ⟨T0, T1, st, hm, rfl, rfl, rfl⟩ := h
  have hT : two i (flat T0) (flat T1) = flat (two i T0 T1) := by cases i <;> rfl
  rw [hT] at hto htp
  refine ⟨ptrV (two i T0 T1), (hm.tr i).t, (tail_walk (tb := two i tb0 tb1) (mb := mb) f d hd _ (two i T0 T1) st w (Nat.le_refl _) (hm.good i) hto htp (hm.lay i) (hm.nodup i) (hm.tr i) (hm.tbn i) (hm.mbn i)).mono ?_⟩
  rintro e w' ⟨T', rfl, q1, q2, q3, q4, q5, ⟨st', q7⟩, q8⟩
  have hstep := (hm.step i q1 (by rw [q4]; exact hm.nodup i) q2 (fun x hx => .inl (q4 ▸ hx)) q7 (congrArg Value.pointer q5.symm) q8 (fun x hx => .inl (List.mem_cons_of_mem _ hx))).1
  refine ⟨rfl, ⟨_, _, _, hstep, ?_, ?_, ?_⟩, q8.mono (fun x hx => .inl (two_sub i x (List.mem_cons_of_mem _ hx)))⟩
  · cases i
    · exact q3
    · rfl
  · cases i
    · rfl
    · exact q3
  · cases i
    · show _ = mkB mb tb0 tb1 T' T1
      unfold mkB
      rw [show blks T' = blks T0 from q4]
    · show _ = mkB mb tb0 tb1 T0 T'
      unfold mkB
      rw [show blks T' = blks T1 from q4]
end Go.Proofs.Ytijpienjejfmiaa
