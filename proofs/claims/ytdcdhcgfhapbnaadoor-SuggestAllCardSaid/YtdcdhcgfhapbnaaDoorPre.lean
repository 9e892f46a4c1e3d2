/-
  A region that draws its order: what the loads ahead of its first store lean on (S) is asked of each world ahead of that store. No conditions beyond those that each law names.
-/
import Derived.Test.YtdcdhcgfhapbnaaDoorTail
import Derived.Test.YtdcdhcgfhapbnaaDoorQuiet
import Derived.OrdersHeld
import Derived.Deep.RegionHeld
namespace Go.Proofs.YtdcdhcgfhapbnaaDoor
open Go Go.RowKit

section
variable {P : Program} {ops : Array Oper} {Q : Exit → Act → World → Prop} {md : Region.Mode} {S : World → Prop} {n : Nat}

/-- Whatever order is picked: S holds behind each operation ahead of number n. -/
def wpPre (P : Program) (md : Region.Mode) (ops : Array Oper) (Q : Exit → Act → World → Prop) (S : World → Prop) (n : Nat) : Nat → Array Bool → Act → World → Prop
  | 0, l, a, w => Region.ready md ops l = [] ∧ Q .normal a w
  | f + 1, l, a, w => (Region.ready md ops l = [] → Q .normal a w) ∧ ∀ i ∈ Region.ready md ops l, wpOp P ops Q i (fun a' w' => (i = n → wpAny P md ops Q f (l.setIfInBounds i true) a' w') ∧ (i ≠ n → S w' ∧ wpPre P md ops Q S n f (l.setIfInBounds i true) a' w')) a w

theorem wpPre_any : ∀ (f : Nat) (l : Array Bool) (a : Act) (w : World), wpPre P md ops Q S n f l a w → wpAny P md ops Q f l a w
  | 0, _, _, _, h => h
  | f + 1, _, _, _, h => ⟨h.1, fun i hi => wpOp_mono (fun a' w' h' => by
      by_cases e : i = n
      · exact h'.1 e
      · exact wpPre_any f _ a' w' (h'.2 e).2) (h.2 i hi)⟩

theorem wpPre_first {i : Nat} {oi on : Oper} {v : Value} (hi : ops[i]? = some oi) (hsel : ∀ (j : Nat) (o : Oper) cs b, ops[j]? = some o → o.op ≠ .select cs b)
    (hon : ops[n]? = some on) (hin : ∃ e ∈ on.after, Region.binds md e = true ∧ e.on = i) (hin2 : i ≠ n)
    (hQ : ∀ c a w, Q (.panic c) (a.put oi.dst v) w → Q (.panic c) a w) : ∀ (f : Nat) (l : Array Bool) (a : Act) (w : World),
      (∀ j oj, ops[j]? = some oj → j ≠ i → l.getD j true = false → (∀ e ∈ oj.after, Region.binds md e = true → e.on ≠ i) → oi.apart ops oj = true) →
      i ∈ Region.ready md ops l → YieldsIf P ops S oi v a → S w → wpPre P md ops Q S n f (l.setIfInBounds i true) (a.put oi.dst v) w → wpPre P md ops Q S n (f + 1) l a w := by
  intro f
  induction f with
  | zero =>
    intro l a w _ hr hy hS H
    refine ⟨fun h => (by rw [h] at hr; cases hr), fun j hj => ?_⟩
    by_cases hji : j = i
    · subst hji
      exact hy.wpOp hi hS ⟨fun e => absurd e hin2, fun _ => ⟨hS, H⟩⟩
    · have h0 := ready_mono hj hji
      rw [H.1] at h0
      cases h0
  | succ f ih =>
    intro l a w hfree hr hy hS H
    refine ⟨fun h => (by rw [h] at hr; cases hr), fun j hj => ?_⟩
    by_cases hji : j = i
    · subst hji
      exact hy.wpOp hi hS ⟨fun e => absurd e hin2, fun _ => ⟨hS, H⟩⟩
    · obtain ⟨hjun, oj, hoj, hall⟩ := mem_ready.1 hj
      have hnot : ∀ e ∈ oj.after, Region.binds md e = true → e.on ≠ i := by
        intro e he hb heq
        have h1 := hall e he hb
        have h0 := (mem_ready.1 hr).1
        rw [heq] at h1
        rcases Nat.lt_or_ge i l.size with h' | h'
        · simp [h'] at h0 h1
          rw [h0] at h1; cases h1
        · simp [Array.getElem?_eq_none h'] at h1
      have hjn : j ≠ n := by
        rintro rfl
        obtain ⟨e, he, hb, heq⟩ := hin
        rw [hoj] at hon
        cases hon
        exact hnot e he hb heq
      have h2 := wpOp_putIf hoj (hfree j oj hoj hji hjun hnot) (fun cs b => hsel i oi cs b hi) (fun cs b => hsel j oj cs b hoj) hQ hy (H.2 j (ready_mono hj hji))
      have hfree' : ∀ k ok, ops[k]? = some ok → k ≠ i → (l.setIfInBounds j true).getD k true = false → (∀ e ∈ ok.after, Region.binds md e = true → e.on ≠ i) → oi.apart ops ok = true := by
        intro k ok hk hki hun hno
        refine hfree k ok hk hki ?_ hno
        by_cases hjk : j = k
        · subst hjk; exact hjun
        · rw [getD_set_ne true hjk] at hun; exact hun
      refine wpOp_mono (fun a' w' h3 => ⟨fun e => absurd e hjn, fun _ => ⟨(h3.2.2 hjn).1, ih (l.setIfInBounds j true) a' w' hfree' (ready_mono hr (Ne.symm hji)) h3.1 (h3.2.2 hjn).1 ?_⟩⟩) h2
      rw [Array.setIfInBounds_comm _ _ hji]
      exact (h3.2.2 hjn).2

/-- One that yields in whatever world, wherever it stands. -/
theorem wpPre_free {i : Nat} {oi : Oper} {v : Value} (hi : ops[i]? = some oi) (hsel : ∀ (j : Nat) (o : Oper) cs b, ops[j]? = some o → o.op ≠ .select cs b) (hin2 : i ≠ n)
    (hQ : ∀ c a w, Q (.panic c) (a.put oi.dst v) w → Q (.panic c) a w) : ∀ (f : Nat) (l : Array Bool) (a : Act) (w : World),
      (∀ j oj, ops[j]? = some oj → j ≠ i → l.getD j true = false → (∀ e ∈ oj.after, Region.binds md e = true → e.on ≠ i) → oi.apart ops oj = true) →
      i ∈ Region.ready md ops l → Yields P ops oi v a → S w → wpPre P md ops Q S n f (l.setIfInBounds i true) (a.put oi.dst v) w → wpPre P md ops Q S n (f + 1) l a w := by
  intro f
  induction f with
  | zero =>
    intro l a w _ hr hy hS H
    refine ⟨fun h => (by rw [h] at hr; cases hr), fun j hj => ?_⟩
    by_cases hji : j = i
    · subst hji
      exact (hy.yieldsIf (S := S)).wpOp hi hS ⟨fun e => absurd e hin2, fun _ => ⟨hS, H⟩⟩
    · have h0 := ready_mono hj hji
      rw [H.1] at h0
      cases h0
  | succ f ih =>
    intro l a w hfree hr hy hS H
    refine ⟨fun h => (by rw [h] at hr; cases hr), fun j hj => ?_⟩
    by_cases hji : j = i
    · subst hji
      exact (hy.yieldsIf (S := S)).wpOp hi hS ⟨fun e => absurd e hin2, fun _ => ⟨hS, H⟩⟩
    · obtain ⟨hjun, oj, hoj, hall⟩ := mem_ready.1 hj
      have hnot : ∀ e ∈ oj.after, Region.binds md e = true → e.on ≠ i := by
        intro e he hb heq
        have h1 := hall e he hb
        have h0 := (mem_ready.1 hr).1
        rw [heq] at h1
        rcases Nat.lt_or_ge i l.size with h' | h'
        · simp [h'] at h0 h1
          rw [h0] at h1; cases h1
        · simp [Array.getElem?_eq_none h'] at h1
      have h2 := wpOp_putIf (S := fun _ => True) hoj (hfree j oj hoj hji hjun hnot) (fun cs b => hsel i oi cs b hi) (fun cs b => hsel j oj cs b hoj) hQ hy.yieldsIf (H.2 j (ready_mono hj hji))
      have hfree' : ∀ k ok, ops[k]? = some ok → k ≠ i → (l.setIfInBounds j true).getD k true = false → (∀ e ∈ ok.after, Region.binds md e = true → e.on ≠ i) → oi.apart ops ok = true := by
        intro k ok hk hki hun hno
        refine hfree k ok hk hki ?_ hno
        by_cases hjk : j = k
        · subst hjk; exact hjun
        · rw [getD_set_ne true hjk] at hun; exact hun
      refine wpOp_mono (fun a' w' h3 => ?_) h2
      have hy' : Yields P ops oi v a' := h3.1.imp (fun ⟨hw, hv⟩ => ⟨hw, fun w => hv w trivial⟩) id
      refine ⟨fun e => ?_, fun e => ⟨(h3.2.2 e).1, ih (l.setIfInBounds j true) a' w' hfree' (ready_mono hr (Ne.symm hji)) hy' (h3.2.2 e).1 ?_⟩⟩
      · have h4 := h3.2.1 e
        rw [Array.setIfInBounds_comm _ _ (Ne.symm hji)] at h4
        exact wpAny_first hi hsel hQ f (l.setIfInBounds j true) a' w' hfree' (ready_mono hr (Ne.symm hji)) hy' h4
      · rw [Array.setIfInBounds_comm _ _ hji]
        exact (h3.2.2 e).2
end

section
variable {P : Program} {ol : List Oper} {Q : Exit → Act → World → Prop} {S : World → Prop} {n : Nat}

/-- Ahead of the first store; shut. -/
structure PW (P : Program) (ol : List Oper) (Q : Exit → Act → World → Prop) (S : World → Prop) (n : Nat) (f : Nat) (l : Array Bool) (a : Act) (w : World) : Prop where
  out : wpPre P .any ol.toArray Q S n f l a w

/-- Behind it; shut. -/
structure AW (P : Program) (ol : List Oper) (Q : Exit → Act → World → Prop) (f : Nat) (l : Array Bool) (a : Act) (w : World) : Prop where
  out : wpAny P .any ol.toArray Q f l a w

theorem region_pre (n : Nat) (S : World → Prop) {id : Nat} {a : Act} {w : World} (hm : P.follows .mixedOrders = true) (hS : S w.drew) (h : S w.drew → PW P ol Q S n ol.toArray.size (Array.replicate ol.toArray.size false) a w.drew) : (Code.region id ol.toArray true).wp P Q a w :=
  wp_region_any hm (wpPre_any _ _ _ _ (h hS).out)

/-- A load that the first store waits for. -/
theorem pre_load (i : Nat) {oi : Oper} {v : Value} {f : Nat} {l : Array Bool} {a : Act} {w : World} (hi : ol[i]? = some oi) (hs : Region.noSelect ol.toArray = true)
    (hf : Region.free .any ol.toArray l i = true) (hr : (Region.ready .any ol.toArray l).contains i = true) (hn : ((ol[n]?.map fun o => o.after.any fun e => Region.binds .any e && e.on == i) == some true && decide (i ≠ n)) = true)
    (hQ : ∀ c a w, Q (.panic c) (a.put oi.dst v) w → Q (.panic c) a w) (hw : Region.wanted oi (yielded ol.toArray a.tmps) = true) (hy : ∀ u, S u → (execOp a.eval oi).run P u = .ok (.value v) u) (hS : S w)
    (h : PW P ol Q S n f (l.setIfInBounds i true) (a.put oi.dst v) w) : PW P ol Q S n (f + 1) l a w := by
  rw [Bool.and_eq_true, beq_iff_eq, decide_eq_true_eq] at hn
  obtain ⟨on, hon, hb⟩ := Option.map_eq_some_iff.1 hn.1
  obtain ⟨e, he, h2⟩ := Array.any_eq_true'.1 hb
  simp only [Bool.and_eq_true, beq_iff_eq] at h2
  exact ⟨wpPre_first (by rw [List.getElem?_toArray]; exact hi) (Region.noSelect_spec hs) (by rw [List.getElem?_toArray]; exact hon) ⟨e, he, h2.1, h2.2⟩ hn.2 hQ f l a w (Region.free_spec (by rw [List.getElem?_toArray]; exact hi) hf) (by simpa using hr) (.inl ⟨hw, hy⟩) hS h.out⟩

/-- What yields in whatever world. -/
theorem pre_free (i : Nat) {oi : Oper} {v : Value} {f : Nat} {l : Array Bool} {a : Act} {w : World} (hi : ol[i]? = some oi) (hs : Region.noSelect ol.toArray = true)
    (hf : Region.free .any ol.toArray l i = true) (hr : (Region.ready .any ol.toArray l).contains i = true) (hn : decide (i ≠ n) = true)
    (hQ : ∀ c a w, Q (.panic c) (a.put oi.dst v) w → Q (.panic c) a w) (hw : Region.wanted oi (yielded ol.toArray a.tmps) = true) (hy : ∀ u, (execOp a.eval oi).run P u = .ok (.value v) u) (hS : S w)
    (h : PW P ol Q S n f (l.setIfInBounds i true) (a.put oi.dst v) w) : PW P ol Q S n (f + 1) l a w :=
  ⟨wpPre_free (by rw [List.getElem?_toArray]; exact hi) (Region.noSelect_spec hs) (of_decide_eq_true hn) hQ f l a w (Region.free_spec (by rw [List.getElem?_toArray]; exact hi) hf) (by simpa using hr) (.inl ⟨hw, hy⟩) hS h.out⟩

/-- The one operation that may come up, ahead of the first store. -/
theorem pre_one (i : Nat) {o : Oper} {f : Nat} {l : Array Bool} {a : Act} {w : World} (hr : Region.ready .any ol.toArray l = [i]) (hn : decide (i ≠ n) = true) (ho : ol[i]? = some o)
    (h : ∀ K' : Act → World → Prop, Shut (∀ a w, S w → (S w → PW P ol Q S n f (l.setIfInBounds i true) a w) → K' a w) → if Region.wanted o (yielded ol.toArray a.tmps) = true then Oper.wp P o a w K' Q else K' (a.put o.dst undef) w) :
    PW P ol Q S n (f + 1) l a w := by
  refine ⟨⟨fun h0 => (by rw [h0] at hr; cases hr), fun j hj => ?_⟩⟩
  rw [hr, List.mem_singleton] at hj
  subst hj
  exact wpOp_step (by rw [List.getElem?_toArray]; exact ho) (fun K' hK => h K' (fun a w hS hW => hK a w ⟨fun e => absurd e (of_decide_eq_true hn), fun _ => ⟨hS, (hW hS).out⟩⟩))

/-- The first store. -/
theorem pre_last {o : Oper} {f : Nat} {l : Array Bool} {a : Act} {w : World} (hr : Region.ready .any ol.toArray l = [n]) (ho : ol[n]? = some o)
    (h : ∀ K' : Act → World → Prop, Shut (∀ a w, AW P ol Q f (l.setIfInBounds n true) a w → K' a w) → if Region.wanted o (yielded ol.toArray a.tmps) = true then Oper.wp P o a w K' Q else K' (a.put o.dst undef) w) :
    PW P ol Q S n (f + 1) l a w := by
  refine ⟨⟨fun h0 => (by rw [h0] at hr; cases hr), fun j hj => ?_⟩⟩
  rw [hr, List.mem_singleton] at hj
  subst hj
  exact wpOp_step (by rw [List.getElem?_toArray]; exact ho) (fun K' hK => h K' (fun a w hW => hK a w ⟨fun _ => hW.out, fun e => absurd rfl e⟩))

/-- One more, behind it. -/
theorem aw_one (i : Nat) {o : Oper} {f : Nat} {l : Array Bool} {a : Act} {w : World} (hr : Region.ready .any ol.toArray l = [i]) (ho : ol[i]? = some o)
    (h : ∀ K' : Act → World → Prop, Shut (∀ a w, AW P ol Q f (l.setIfInBounds i true) a w → K' a w) → if Region.wanted o (yielded ol.toArray a.tmps) = true then Oper.wp P o a w K' Q else K' (a.put o.dst undef) w) :
    AW P ol Q (f + 1) l a w := by
  refine ⟨⟨fun h0 => (by rw [h0] at hr; cases hr), fun j hj => ?_⟩⟩
  rw [hr, List.mem_singleton] at hj
  subst hj
  exact wpOp_step (by rw [List.getElem?_toArray]; exact ho) (fun K' hK => h K' (fun a w hW => hK a w hW.out))

theorem aw_done {f : Nat} {l : Array Bool} {a : Act} {w : World} (hr : Region.ready .any ol.toArray l = []) (h : Q .normal a w) : AW P ol Q f l a w := ⟨wpAny_done hr h f⟩
end

section
variable {P : Program} {ol : List Oper} {Q : Exit → Act → World → Prop} {S : World → Prop}

/-- Whatever order is picked, S behind each operation; shut. -/
structure HW (P : Program) (ol : List Oper) (Q : Exit → Act → World → Prop) (S : World → Prop) (f : Nat) (l : Array Bool) (a : Act) (w : World) : Prop where
  out : wpAnyH P .any ol.toArray Q S f l a w

theorem region_hw (S : World → Prop) {id : Nat} {a : Act} {w : World} (hm : P.follows .mixedOrders = true) (hS : S w.drew) (h : S w.drew → HW P ol Q S ol.toArray.size (Array.replicate ol.toArray.size false) a w.drew) : (Code.region id ol.toArray true).wp P Q a w :=
  wp_region_any hm (wpAny_of_held _ _ _ _ (h hS).out)

theorem hw_take (i : Nat) {oi : Oper} {v : Value} {f : Nat} {l : Array Bool} {a : Act} {w : World} (hi : ol[i]? = some oi) (hs : Region.noSelect ol.toArray = true)
    (hf : Region.free .any ol.toArray l i = true) (hr : (Region.ready .any ol.toArray l).contains i = true)
    (hQ : ∀ c a w, Q (.panic c) (a.put oi.dst v) w → Q (.panic c) a w) (hw : Region.wanted oi (yielded ol.toArray a.tmps) = true) (hy : ∀ u, S u → (execOp a.eval oi).run P u = .ok (.value v) u) (hS : S w)
    (h : HW P ol Q S f (l.setIfInBounds i true) (a.put oi.dst v) w) : HW P ol Q S (f + 1) l a w :=
  ⟨wpAnyH_take (by rw [List.getElem?_toArray]; exact hi) hs hf hr hQ (.inl ⟨hw, hy⟩) hS h.out⟩

theorem hw_one (i : Nat) {o : Oper} {f : Nat} {l : Array Bool} {a : Act} {w : World} (hr : Region.ready .any ol.toArray l = [i]) (ho : ol[i]? = some o)
    (h : ∀ K' : Act → World → Prop, Shut (∀ a w, S w → (S w → HW P ol Q S f (l.setIfInBounds i true) a w) → K' a w) → if Region.wanted o (yielded ol.toArray a.tmps) = true then Oper.wp P o a w K' Q else K' (a.put o.dst undef) w) :
    HW P ol Q S (f + 1) l a w := by
  refine ⟨⟨fun h0 => (by rw [h0] at hr; cases hr), fun j hj => ?_⟩⟩
  rw [hr, List.mem_singleton] at hj
  subst hj
  exact wpOp_step (by rw [List.getElem?_toArray]; exact ho) (fun K' hK => h K' (fun a w hS hW => hK a w ⟨hS, (hW hS).out⟩))

theorem hw_done {f : Nat} {l : Array Bool} {a : Act} {w : World} (hr : Region.ready .any ol.toArray l = []) (h : Q .normal a w) : HW P ol Q S f l a w := by
  cases f with
  | zero => exact ⟨hr, h⟩
  | succ f => exact ⟨fun _ => h, by rw [hr]; simp⟩
end
end Go.Proofs.YtdcdhcgfhapbnaaDoor
