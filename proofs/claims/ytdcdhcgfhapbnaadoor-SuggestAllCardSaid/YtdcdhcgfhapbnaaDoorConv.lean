/-
  A row of bytes as a string. No conditions beyond those that each lemma names.
-/
import Derived.Test.YtdcdhcgfhapbnaaDoorChecked
import Derived.Test.YtdcdhcgfhapbnaaDoorSl
import Derived.Lib.Builder
import Derived.Laws.IdiomStrings
namespace Go.Proofs.YtdcdhcgfhapbnaaDoor

abbrev Wd := List UInt8
abbrev DEdge := UInt8 × Nat
abbrev DSt := Bool × List DEdge

/-- A state's number, and the states then. -/
def knowS (sts : List DSt) (s : DSt) : Nat × List DSt :=
  match sts.findIdx? (· == s) with
  | some i => (i, sts)
  | none => (sts.length, sts ++ [s])

def headIs (c : UInt8) (w : Wd) : Bool := w.head? == some c

/-- The edges out of a state, group by group. -/
def edgesS (bld : List Wd → List DSt → Nat × List DSt) : Nat → List Wd → List DSt → List DEdge × List DSt
  | 0, _, sts => ([], sts)
  | _ + 1, [], sts => ([], sts)
  | n + 1, w :: W, sts =>
    let c := w.headD 0
    let k := (W.takeWhile (headIs c)).length
    let r := bld ((w :: W.take k).map List.tail) sts
    let q := edgesS bld n (W.drop k) r.2
    ((c, r.1) :: q.1, q.2)

/-- The state behind a beginning, for the words' endings. -/
def buildS : Nat → List Wd → List DSt → Nat × List DSt
  | 0, _, sts => (0, sts)
  | f + 1, W, sts =>
    let fin := W.head? == some []
    let W' := if fin then W.tail else W
    let r := edgesS (buildS f) W'.length W' sts
    knowS r.2 (fin, r.1)

/-- Rising words. -/
def Rise (W : List Wd) : Prop := W.Pairwise (· < ·)

theorem lt_nil (w : Wd) : ¬ (w < []) := by
  intro h; cases h

theorem Rise.tail_ne {w : Wd} {W : List Wd} (h : Rise (w :: W)) : ∀ x ∈ W, x ≠ [] := by
  intro x hx e
  subst e
  exact lt_nil w ((List.pairwise_cons.1 h).1 [] hx)

theorem Rise.sub {V W : List Wd} (h : Rise W) (s : V.Sublist W) : Rise V := List.Pairwise.sublist s h

theorem lt_cons_iff {c d : UInt8} {v w : Wd} : (c :: v < d :: w) ↔ c < d ∨ (c = d ∧ v < w) := by
  rw [List.cons_lt_cons_iff]

theorem Rise.tails {c : UInt8} {W : List Wd} (h : Rise W) (hc : ∀ w ∈ W, headIs c w = true) : Rise (W.map List.tail) := by
  unfold Rise at *
  rw [List.pairwise_map]
  refine List.Pairwise.imp_of_mem ?_ h
  intro a b ha hb hab
  have h1 := hc a ha
  have h2 := hc b hb
  match a, b with
  | [], _ => simp [headIs] at h1
  | _ :: _, [] => simp [headIs] at h2
  | x :: v, y :: w =>
    simp [headIs] at h1 h2
    subst h1 h2
    rcases lt_cons_iff.1 hab with h | ⟨_, h⟩
    · exact absurd h (UInt8.lt_irrefl _)
    · exact h

def tot (W : List Wd) : Nat := (W.map List.length).sum

theorem tot_cons (w : Wd) (W : List Wd) : tot (w :: W) = w.length + tot W := by simp [tot]
theorem tot_append (V W : List Wd) : tot (V ++ W) = tot V + tot W := by simp [tot]

theorem tot_tails {W : List Wd} (h : ∀ w ∈ W, w ≠ []) : tot (W.map List.tail) + W.length = tot W := by
  induction W with
  | nil => rfl
  | cons w W ih =>
    have h1 := ih (fun x hx => h x (by simp [hx]))
    have h2 := h w (by simp)
    match w, h2 with
    | c :: v, _ =>
      simp only [List.map_cons, tot_cons, List.tail_cons, List.length_cons] at *
      omega

theorem take_takeWhile {α : Type} (p : α → Bool) : ∀ W : List α, W.take (W.takeWhile p).length = W.takeWhile p
  | [] => rfl
  | w :: W => by
    by_cases h : p w = true
    · simp [List.takeWhile_cons, h, take_takeWhile p W]
    · simp [List.takeWhile_cons, h]

theorem knowS_len (sts : List DSt) (s : DSt) : (knowS sts s).2.length ≤ sts.length + 1 ∧ sts.length ≤ (knowS sts s).2.length := by
  unfold knowS; split <;> simp

theorem buildS_len (f : Nat) : ∀ (W : List Wd) (sts : List DSt), (∀ w ∈ W, w.length < f) → Rise W → (buildS f W sts).2.length ≤ sts.length + 1 + tot W := by
  induction f with
  | zero =>
    intro W sts h _
    simp [buildS]; omega
  | succ f ih =>
    have edges : ∀ (n : Nat) (W : List Wd) (sts : List DSt), W.length ≤ n → (∀ w ∈ W, w.length < f + 1 ∧ w ≠ []) → Rise W → (edgesS (buildS f) n W sts).2.length ≤ sts.length + tot W := by
      intro n
      induction n with
      | zero => intro W sts _ _ _; simp [edgesS]
      | succ n ihn =>
        intro W sts hn hw hr
        match W with
        | [] => simp [edgesS]
        | w :: W =>
          simp only [edgesS]
          have hg : ∀ x ∈ w :: W.take (W.takeWhile (headIs (w.headD 0))).length, headIs (w.headD 0) x = true := by
            intro x hx
            rcases List.mem_cons.1 hx with rfl | hx
            · have := (hw x (by simp)).2
              match x, this with
              | c :: v, _ => simp [headIs]
            · rw [take_takeWhile] at hx
              exact List.all_eq_true.1 List.all_takeWhile x hx
          generalize hk : (W.takeWhile (headIs (w.headD 0))).length = k at hg
          have hsub : (w :: W.take k).Sublist (w :: W) := List.Sublist.cons_cons _ (List.take_sublist _ _)
          have hne : ∀ x ∈ w :: W.take k, x ≠ [] := fun x hx => (hw x (hsub.mem hx)).2
          have h1 := ih ((w :: W.take k).map List.tail) sts (by
            intro x hx
            obtain ⟨y, hy, rfl⟩ := List.mem_map.1 hx
            have h1 := (hw y (hsub.mem hy)).1
            have h2 := hne y hy
            match y, h2 with
            | c :: v, _ => simp at h1 ⊢; omega) ((hr.sub hsub).tails hg)
          have h2 := ihn (W.drop k) (buildS f ((w :: W.take k).map List.tail) sts).2 (by simp at hn ⊢; omega) (fun x hx => hw x (by simp [List.mem_of_mem_drop hx])) (hr.sub ((List.drop_sublist _ _).trans (List.sublist_cons_self _ _)))
          have h3 := tot_tails hne
          have h4 : tot (w :: W) = tot (w :: W.take k) + tot (W.drop k) := by
            rw [← tot_append, List.cons_append, List.take_append_drop]
          simp only [List.length_cons] at h3
          omega
    intro W sts hw hr
    simp only [buildS]
    generalize hW' : (if (W.head? == some []) = true then W.tail else W) = W'
    have hle : tot W' ≤ tot W := by
      subst hW'; split
      · cases W with
        | nil => simp
        | cons w W => rw [List.tail_cons, tot_cons]; omega
      · exact Nat.le_refl _
    have hr' : Rise W' := by
      subst hW'; split
      · exact hr.sub (List.tail_sublist W)
      · exact hr
    have hw' : ∀ w ∈ W', w.length < f + 1 ∧ w ≠ [] := by
      intro x hx
      subst hW'
      split at hx
      · rename_i hh
        cases W with
        | nil => simp at hx
        | cons w W => exact ⟨hw x (by simp at hx; simp [hx]), hr.tail_ne x (by simpa using hx)⟩
      · rename_i hh
        refine ⟨hw x hx, fun e => ?_⟩
        subst e
        cases W with
        | nil => simp at hx
        | cons w W =>
          rcases List.mem_cons.1 hx with rfl | hx
          · simp at hh
          · exact hr.tail_ne _ hx rfl
    have h1 := edges W'.length W' sts (Nat.le_refl _) hw' hr'
    have h2 := knowS_len (edgesS (buildS f) W'.length W' sts).2 (W.head? == some [], (edgesS (buildS f) W'.length W' sts).1)
    omega
end Go.Proofs.YtdcdhcgfhapbnaaDoor

namespace Go.Proofs.YtdcdhcgfhapbnaaDoor
open Go Go.RowKit

theorem conv_bytes (bs : Wd) (b n c : Nat) (w : World) (hl : bs.length = n) (h : ∀ j u, (Lib.byteCells bs)[j]? = some u → w.cell? ⟨b, j, none⟩ = some u) :
    (convert 74 9 (.slice (some ⟨b, 0, none⟩) n c)).run Tryd.prog w = .ok (.string ⟨bs.toArray⟩) w := by
  subst hl
  refine run_convert_bytes_back w 74 9 5 ⟨b, 0, none⟩ c bs Tryd.underlying74 Tryd.underlying5 Tryd.underlying9 (fun j hj => ?_)
  have e : (⟨b, 0, none⟩ : Addr).add j = ⟨b, j, none⟩ := by unfold Addr.add; split <;> simp_all
  rw [e]
  exact h j _ (by simp [Lib.byteCells, hj])
end Go.Proofs.YtdcdhcgfhapbnaaDoor
