/-
  Marks' trees whose spans are places: what each number is within. No conditions beyond those that each lemma names.
-/
import Derived.Test.YtijpienjejfmiaaMkR
namespace Go.Proofs.Ytijpienjejfmiaa
open Go Go.RowKit

/-- Where a node's span stood as nothing waited. -/
def Stl : Tr → Prop
  | .nil => True
  | .node _ l r s _ _ _ w => (0 ≤ s.a - w ∧ s.a - w ≤ 2199023255552) ∧ Stl l ∧ Stl r

/-- A span of places. -/
def In (x : Sp) : Prop := 0 ≤ x.a ∧ x.a < x.b ∧ x.b ≤ 2199023255552

theorem Stl.move {t : Tr} (h : Stl t) (d : Int) : Stl (moveT d t) := by
  cases t with
  | nil => exact trivial
  | node b l r s hh c m w =>
    obtain ⟨h1, h2, h3⟩ := h
    refine ⟨?_, h2, h3⟩
    show 0 ≤ (s.a + d) - (w + d) ∧ (s.a + d) - (w + d) ≤ _
    omega

theorem mem_node {b : Nat} {l r : Tr} {s : Sp} {h c m w : Int} : s ∈ flat (.node b l r s h c m w) := by
  show s ∈ adds w (flat l) ++ [s] ++ adds w (flat r)
  simp

theorem Stl.down {t : Tr} (h : Stl t) (hs : ∀ x ∈ flat t, In x) : Stl (downT t) := by
  cases t with
  | nil => exact trivial
  | node b l r s hh c m w =>
    obtain ⟨h1, h2, h3⟩ := h
    have := hs s mem_node
    unfold In at this
    exact ⟨by omega, h2.move w, h3.move w⟩

theorem Stl.told0 {b : Nat} {l r : Tr} {s : Sp} {h c m : Int} (hl : Stl l) (hr : Stl r) (hs : In s) : Stl (toldT (.node b l r s h c m 0)) := by
  unfold In at hs
  exact ⟨by omega, hl, hr⟩

theorem Stl.liftL {b : Nat} {l r : Tr} {s : Sp} {h c m : Int} (hl : Stl l) (hr : Stl r) (hb : ∀ x ∈ flat (.node b l r s h c m 0), In x) : Stl (liftL (.node b l r s h c m 0)) := by
  have hs : In s := hb s mem_node
  cases l with
  | nil => unfold In at hs; exact ⟨by omega, hl, hr⟩
  | node bk kl kr ks kh kc km kw =>
    obtain ⟨_, h1, h2⟩ := hl
    have hk : In ks := hb ks (by rw [flat_node0]; show ks ∈ (adds kw (flat kl) ++ [ks] ++ adds kw (flat kr)) ++ [s] ++ flat r; simp)
    exact Stl.told0 (h := kh) (c := kc) (m := km) (h1.move kw) ((h2.move kw).told0 hr hs) hk

theorem Stl.liftR {b : Nat} {l r : Tr} {s : Sp} {h c m : Int} (hl : Stl l) (hr : Stl r) (hb : ∀ x ∈ flat (.node b l r s h c m 0), In x) : Stl (liftR (.node b l r s h c m 0)) := by
  have hs : In s := hb s mem_node
  cases r with
  | nil => unfold In at hs; exact ⟨by omega, hl, hr⟩
  | node bk kl kr ks kh kc km kw =>
    obtain ⟨_, h1, h2⟩ := hr
    have hk : In ks := hb ks (by rw [flat_node0]; show ks ∈ flat l ++ [s] ++ (adds kw (flat kl) ++ [ks] ++ adds kw (flat kr)); simp)
    exact Stl.told0 (h := kh) (c := kc) (m := km) (hl.told0 (h1.move kw) hs) (h2.move kw) hk

theorem Stl.nearL {t : Tr} (h : Stl t) (hb : ∀ x ∈ flat t, In x) : Stl (nearL t) := by
  unfold Go.Proofs.Ytijpienjejfmiaa.nearL
  split
  · cases t with
    | nil => exact trivial
    | node b l r s hh c m w =>
      have hd := h.down hb
      have hf := flat_down (.node b l r s hh c m w)
      exact Stl.liftR hd.2.1 hd.2.2 (fun x hx => hb x (by rw [← hf]; exact hx))
  · exact h.down hb

theorem Stl.nearR {t : Tr} (h : Stl t) (hb : ∀ x ∈ flat t, In x) : Stl (nearR t) := by
  unfold Go.Proofs.Ytijpienjejfmiaa.nearR
  split
  · cases t with
    | nil => exact trivial
    | node b l r s hh c m w =>
      have hd := h.down hb
      have hf := flat_down (.node b l r s hh c m w)
      exact Stl.liftL hd.2.1 hd.2.2 (fun x hx => hb x (by rw [← hf]; exact hx))
  · exact h.down hb

theorem Stl.even {b : Nat} {l r : Tr} {s : Sp} {h c m : Int} (hl : Stl l) (hr : Stl r) (hb : ∀ x ∈ flat l ++ [s] ++ flat r, In x) : Stl (evenT (.node b l r s h c m 0)) := by
  have hbl : ∀ x ∈ flat l, In x := fun x hx => hb x (by simp [hx])
  have hbr : ∀ x ∈ flat r, In x := fun x hx => hb x (by simp [hx])
  simp only [evenT]
  split
  · refine Stl.liftL (hl.nearL hbl) hr (fun x hx => hb x ?_)
    rw [flat_node0, flat_nearL] at hx; exact hx
  · split
    · refine Stl.liftR hl (hr.nearR hbr) (fun x hx => hb x ?_)
      rw [flat_node0, flat_nearR] at hx; exact hx
    · exact hl.told0 hr (hb s (by simp))

theorem Tells.low {t : Tr} (h : Tells t) : highT t ≤ ((flat t).length : Int) := by
  induction t with
  | nil => exact Int.le_refl 0
  | node b l r s hh c m w ihl ihr =>
    obtain ⟨h1, _, _, _, hl, hr⟩ := h
    have e1 := ihl hl
    have e2 := ihr hr
    have e3 := hl.high
    have e4 := hr.high
    show hh ≤ ((adds w (flat l) ++ [s] ++ adds w (flat r)).length : Int)
    rw [List.length_append, List.length_append, adds_length, adds_length, List.length_singleton]
    omega

/-- What stands above waits so much. -/
theorem Stl.rg : ∀ {t : Tr} {v : Int}, Stl t → Tells t → (∀ x ∈ flat t, (0 ≤ x.a + v ∧ x.a + v ≤ 2199023255552) ∧ 0 ≤ x.b + v ∧ x.b + v ≤ 2199023255552) → (flat t).length ≤ 1099511627776 → -2199023255552 ≤ v → v ≤ 2199023255552 → Rg 8796093022208 t
  | .nil, _, _, _, _, _, _, _ => trivial
  | .node b l r s hh c m w, v, hs, ht, hx, hn, h1, h2 => by
    obtain ⟨⟨s1, s2⟩, s3, s4⟩ := hs
    have hlow := ht.low
    have hhigh := ht.high
    have hmany := ht.many
    obtain ⟨t1, t2, t3, ⟨y, hy, t4⟩, t5, t6⟩ := ht
    have a1 := hx s mem_node
    have a2 := hx y hy
    have hle : (flat (.node b l r s hh c m w)).length = (flat l).length + 1 + (flat r).length := by
      show (adds w (flat l) ++ [s] ++ adds w (flat r)).length = _
      rw [List.length_append, List.length_append, adds_length, adds_length, List.length_singleton]
    change hh ≤ _ at hlow
    change 0 ≤ hh at hhigh
    change c = _ at hmany
    refine ⟨by omega, by omega, by omega, by omega, by omega, by omega, s3.rg (v := w + v) t5 (fun x hm => ?_) (by omega) (by omega) (by omega), s4.rg (v := w + v) t6 (fun x hm => ?_) (by omega) (by omega) (by omega)⟩
    · have := hx (x.add w) (by show _ ∈ adds w (flat l) ++ [s] ++ adds w (flat r); simp [mem_adds]; exact .inl ⟨x, hm, rfl⟩)
      unfold Sp.add at this
      simp only at this
      omega
    · have := hx (x.add w) (by show _ ∈ adds w (flat l) ++ [s] ++ adds w (flat r); simp [mem_adds]; exact .inr (.inr ⟨x, hm, rfl⟩))
      unfold Sp.add at this
      simp only at this
      omega

/-- A tree as it is between two calls. -/
structure Good (t : Tr) : Prop where
  tells : Tells t
  ord : Ord (flat t)
  stl : Stl t
  places : ∀ x ∈ flat t, In x
  few : (flat t).length ≤ 1099511627776

theorem Good.rg {t : Tr} (h : Good t) : Rg 8796093022208 t :=
  h.stl.rg (v := 0) h.tells (fun x hx => by have := h.places x hx; unfold In at this; omega) h.few (by omega) (by omega)

theorem Good.down {t : Tr} (h : Good t) : Good (downT t) :=
  ⟨h.tells.down, by rw [flat_down]; exact h.ord, h.stl.down h.places, by rw [flat_down]; exact h.places, by rw [flat_down]; exact h.few⟩

/-- The sides of a node that nothing waits below. -/
theorem Good.sides {b : Nat} {l r : Tr} {s : Sp} {h c m : Int} (hg : Good (.node b l r s h c m 0)) : Good l ∧ Good r ∧ In s ∧ (∀ x ∈ flat l, x.lt s) ∧ (∀ x ∈ flat r, s.lt x) ∧ (∀ x ∈ flat l, ∀ y ∈ flat r, x.lt y) := by
  obtain ⟨ht, ho, hs, hp, hf⟩ := hg
  rw [flat_node0] at ho hp hf
  obtain ⟨o1, o2, o3, o4, o5⟩ := ord_mid.1 ho
  rw [List.length_append, List.length_append, List.length_singleton] at hf
  exact ⟨⟨ht.2.2.2.2.1, o1, hs.2.1, fun x hx => hp x (by simp [hx]), by omega⟩, ⟨ht.2.2.2.2.2, o2, hs.2.2, fun x hx => hp x (by simp [hx]), by omega⟩, hp s (by simp), o3, o4, o5⟩

/-- Two sides and a span between them, made even. -/
theorem Good.even {b : Nat} {l r : Tr} {s : Sp} {h c m : Int} (hl : Good l) (hr : Good r) (ho : Ord (flat l ++ [s] ++ flat r)) (hs : In s) (hf : (flat l ++ [s] ++ flat r).length ≤ 1099511627776) : Good (evenT (.node b l r s h c m 0)) := by
  have hp : ∀ x ∈ flat l ++ [s] ++ flat r, In x := fun x hx => by
    rcases List.mem_append.1 hx with hx | hx
    · rcases List.mem_append.1 hx with hx | hx
      · exact hl.places x hx
      · rw [List.mem_singleton.1 hx]; exact hs
    · exact hr.places x hx
  refine ⟨hl.tells.even hr.tells (fun x hx => by have := hp x hx; unfold In at this; omega), by rw [flat_even]; exact ho, hl.stl.even hr.stl hp, by rw [flat_even]; exact hp, by rw [flat_even]; exact hf⟩

theorem Good.told {b : Nat} {l r : Tr} {s : Sp} {h c m : Int} (hl : Good l) (hr : Good r) (ho : Ord (flat l ++ [s] ++ flat r)) (hs : In s) (hf : (flat l ++ [s] ++ flat r).length ≤ 1099511627776) : Good (toldT (.node b l r s h c m 0)) := by
  have hp : ∀ x ∈ flat l ++ [s] ++ flat r, In x := fun x hx => by
    rcases List.mem_append.1 hx with hx | hx
    · rcases List.mem_append.1 hx with hx | hx
      · exact hl.places x hx
      · rw [List.mem_singleton.1 hx]; exact hs
    · exact hr.places x hx
  refine ⟨hl.tells.told hr.tells (by unfold In at hs; omega), by rw [flat_told, flat_node0]; exact ho, hl.stl.told0 hr.stl hs, by rw [flat_told, flat_node0]; exact hp, by rw [flat_told, flat_node0]; exact hf⟩

theorem Good.nil : Good .nil := ⟨trivial, List.Pairwise.nil, trivial, fun _ h => (by cases h), by simp [flat]⟩

theorem Good.nearL {t : Tr} (h : Good t) : Good (nearL t) :=
  ⟨h.tells.nearL (fun x hx => by have := h.places x hx; unfold In at this; omega), by rw [flat_nearL]; exact h.ord, h.stl.nearL h.places, by rw [flat_nearL]; exact h.places, by rw [flat_nearL]; exact h.few⟩

theorem Good.nearR {t : Tr} (h : Good t) : Good (nearR t) :=
  ⟨h.tells.nearR (fun x hx => by have := h.places x hx; unfold In at this; omega), by rw [flat_nearR]; exact h.ord, h.stl.nearR h.places, by rw [flat_nearR]; exact h.places, by rw [flat_nearR]; exact h.few⟩
end Go.Proofs.Ytijpienjejfmiaa
