/-
  Marks' trees as plain data: nodes with what waits to be moved below them; the spans in order; what a node tells. No conditions beyond those that each lemma names.
-/
import Derived.Lib.Hide
namespace Go.Proofs.Ytijpienjejfmiaa

/-- A span. -/
structure Sp where
  a : Int
  b : Int
  k : Int
deriving DecidableEq

def Sp.add (s : Sp) (d : Int) : Sp := ⟨s.a + d, s.b + d, s.k⟩

theorem Sp.add_add (s : Sp) (d e : Int) : (s.add d).add e = s.add (d + e) := by simp [Sp.add, Int.add_assoc]
theorem Sp.add_zero (s : Sp) : s.add 0 = s := by simp [Sp.add]

/-- A tree: a block, two sides, a span, height, count, the greatest end, what waits. -/
inductive Tr where
  | nil : Tr
  | node (blk : Nat) (l r : Tr) (s : Sp) (h c m w : Int) : Tr

def adds (d : Int) (l : List Sp) : List Sp := l.map (·.add d)

theorem adds_adds (d e : Int) (l : List Sp) : adds e (adds d l) = adds (d + e) l := by
  unfold adds; rw [List.map_map]; exact List.map_congr_left fun s _ => Sp.add_add s d e
theorem adds_zero (l : List Sp) : adds 0 l = l := by
  unfold adds; rw [show (fun s : Sp => s.add 0) = id from funext Sp.add_zero]; exact List.map_id l
theorem adds_append (d : Int) (l m : List Sp) : adds d (l ++ m) = adds d l ++ adds d m := List.map_append
theorem adds_length (d : Int) (l : List Sp) : (adds d l).length = l.length := List.length_map ..
theorem mem_adds {d : Int} {l : List Sp} {x : Sp} : x ∈ adds d l ↔ ∃ y ∈ l, y.add d = x := List.mem_map

/-- The spans in order. -/
def flat : Tr → List Sp
  | .nil => []
  | .node _ l r s _ _ _ w => adds w (flat l) ++ [s] ++ adds w (flat r)

/-- The blocks. -/
def blks : Tr → List Nat
  | .nil => []
  | .node b l r _ _ _ _ _ => b :: (blks l ++ blks r)

def highT : Tr → Int | .nil => 0 | .node _ _ _ _ h _ _ _ => h
def manyT : Tr → Int | .nil => 0 | .node _ _ _ _ _ c _ _ => c
def farT : Tr → Int | .nil => -1 | .node _ _ _ _ _ _ m _ => m

/-- All moved. -/
def moveT (d : Int) : Tr → Tr
  | .nil => .nil
  | .node b l r s h c m w => .node b l r (s.add d) h c (m + d) (w + d)

theorem flat_move (d : Int) : ∀ t : Tr, flat (moveT d t) = adds d (flat t)
  | .nil => rfl
  | .node b l r s h c m w => by
    show adds (w + d) (flat l) ++ [s.add d] ++ adds (w + d) (flat r) = adds d (adds w (flat l) ++ [s] ++ adds w (flat r))
    rw [adds_append, adds_append, adds_adds, adds_adds]; rfl

theorem blks_move (d : Int) (t : Tr) : blks (moveT d t) = blks t := by cases t <;> rfl
theorem high_move (d : Int) (t : Tr) : highT (moveT d t) = highT t := by cases t <;> rfl
theorem many_move (d : Int) (t : Tr) : manyT (moveT d t) = manyT t := by cases t <;> rfl

/-- What waits is below. -/
def downT : Tr → Tr
  | .nil => .nil
  | .node b l r s h c m w => .node b (moveT w l) (moveT w r) s h c m 0

theorem flat_down : ∀ t : Tr, flat (downT t) = flat t
  | .nil => rfl
  | .node b l r s h c m w => by
    show adds 0 (flat (moveT w l)) ++ [s] ++ adds 0 (flat (moveT w r)) = _
    rw [adds_zero, adds_zero, flat_move, flat_move]; rfl

theorem blks_down (t : Tr) : blks (downT t) = blks t := by
  cases t with
  | nil => rfl
  | node b l r s h c m w => show b :: (blks (moveT w l) ++ blks (moveT w r)) = _; rw [blks_move, blks_move]; rfl

/-- What a node tells. -/
def toldT : Tr → Tr
  | .nil => .nil
  | .node b l r s _ _ _ w => .node b l r s (1 + max (highT l) (highT r)) (1 + manyT l + manyT r) (max (max s.b (farT l)) (farT r)) w

theorem flat_told (t : Tr) : flat (toldT t) = flat t := by cases t <;> rfl
theorem blks_told (t : Tr) : blks (toldT t) = blks t := by cases t <;> rfl

/-- What each node tells is so. -/
def Tells : Tr → Prop
  | .nil => True
  | .node b l r s h c m w => h = 1 + max (highT l) (highT r) ∧ c = ((flat (.node b l r s h c m w)).length : Int) ∧ (∀ x ∈ flat (.node b l r s h c m w), x.b ≤ m) ∧ (∃ x ∈ flat (.node b l r s h c m w), m = x.b) ∧ Tells l ∧ Tells r

theorem Tells.high {t : Tr} (h : Tells t) : 0 ≤ highT t := by
  induction t with
  | nil => exact Int.le_refl 0
  | node b l r s hh c m w ihl ihr =>
    obtain ⟨h1, _, _, _, hl, hr⟩ := h
    have := ihl hl
    show 0 ≤ hh
    omega

theorem Tells.many {t : Tr} (h : Tells t) : manyT t = ((flat t).length : Int) := by
  cases t with
  | nil => rfl
  | node b l r s hh c m w => exact h.2.1

theorem Tells.move {t : Tr} (h : Tells t) (d : Int) : Tells (moveT d t) := by
  cases t with
  | nil => exact trivial
  | node b l r s hh c m w =>
    obtain ⟨h1, h2, h3, ⟨x, hx, h4⟩, hl, hr⟩ := h
    have hf := flat_move d (.node b l r s hh c m w)
    refine ⟨h1, ?_, fun y hy => ?_, ⟨x.add d, ?_, ?_⟩, hl, hr⟩
    · rw [h2]; show _ = ((flat (moveT d (.node b l r s hh c m w))).length : Int); rw [hf, adds_length]
    · change y ∈ flat (moveT d (.node b l r s hh c m w)) at hy
      rw [hf] at hy
      obtain ⟨z, hz, rfl⟩ := mem_adds.1 hy
      have := h3 z hz
      show z.b + d ≤ m + d
      omega
    · show x.add d ∈ flat (moveT d (.node b l r s hh c m w))
      rw [hf]; exact mem_adds.2 ⟨x, hx, rfl⟩
    · show m + d = x.b + d
      rw [h4]

theorem Tells.down {t : Tr} (h : Tells t) : Tells (downT t) := by
  cases t with
  | nil => exact trivial
  | node b l r s hh c m w =>
    obtain ⟨h1, h2, h3, h4, hl, hr⟩ := h
    have hf := flat_down (.node b l r s hh c m w)
    change flat (.node b (moveT w l) (moveT w r) s hh c m 0) = _ at hf
    exact ⟨by rw [high_move, high_move]; exact h1, by rw [hf]; exact h2, by rw [hf]; exact h3, by rw [hf]; exact h4, hl.move w, hr.move w⟩

theorem flat_node0 (b : Nat) (l r : Tr) (s : Sp) (h c m : Int) : flat (.node b l r s h c m 0) = flat l ++ [s] ++ flat r := by
  show adds 0 (flat l) ++ [s] ++ adds 0 (flat r) = _
  rw [adds_zero, adds_zero]

theorem Tells.far {t : Tr} (h : Tells t) : (∀ x ∈ flat t, x.b ≤ farT t) ∧ (t = .nil ∨ ∃ x ∈ flat t, farT t = x.b) := by
  cases t with
  | nil => exact ⟨fun x hx => (by cases hx), .inl rfl⟩
  | node b l r s hh c m w => exact ⟨h.2.2.1, .inr h.2.2.2.1⟩

theorem Tells.told {b : Nat} {l r : Tr} {s : Sp} {h c m : Int} (hl : Tells l) (hr : Tells r) (hs : 0 ≤ s.b) : Tells (toldT (.node b l r s h c m 0)) := by
  have hf := flat_told (.node b l r s h c m 0)
  rw [flat_node0] at hf
  obtain ⟨l1, l2⟩ := hl.far
  obtain ⟨r1, r2⟩ := hr.far
  refine ⟨rfl, ?_, ?_, ?_, hl, hr⟩
  · change _ = ((flat (toldT (.node b l r s h c m 0))).length : Int)
    rw [hf, List.length_append, List.length_append, hl.many, hr.many, List.length_singleton]
    omega
  · change ∀ x ∈ flat (toldT (.node b l r s h c m 0)), _
    rw [hf]
    intro x hx
    rcases List.mem_append.1 hx with hx | hx
    · rcases List.mem_append.1 hx with hx | hx
      · have := l1 x hx; omega
      · rw [List.mem_singleton.1 hx]; omega
    · have := r1 x hx; omega
  · change ∃ x ∈ flat (toldT (.node b l r s h c m 0)), _
    rw [hf]
    rcases l2 with rfl | ⟨x, hx, hx2⟩
    · rcases r2 with rfl | ⟨y, hy, hy2⟩
      · exact ⟨s, by simp, by show max (max s.b (-1)) (-1) = s.b; omega⟩
      · by_cases hc : s.b ≤ y.b
        · exact ⟨y, by simp [hy], by show max (max s.b (-1)) (farT r) = y.b; omega⟩
        · exact ⟨s, by simp, by show max (max s.b (-1)) (farT r) = s.b; omega⟩
    · rcases r2 with rfl | ⟨y, hy, hy2⟩
      · by_cases hc : s.b ≤ x.b
        · exact ⟨x, by simp [hx], by show max (max s.b (farT l)) (-1) = x.b; omega⟩
        · exact ⟨s, by simp, by show max (max s.b (farT l)) (-1) = s.b; omega⟩
      · by_cases h1 : s.b ≤ x.b
        · by_cases h2 : x.b ≤ y.b
          · exact ⟨y, by simp [hy], by omega⟩
          · exact ⟨x, by simp [hx], by omega⟩
        · by_cases h2 : s.b ≤ y.b
          · exact ⟨y, by simp [hy], by omega⟩
          · exact ⟨s, by simp, by omega⟩

/-! ### Turns -/
/-- The left side above. -/
def liftL : Tr → Tr
  | .node bn (.node bk kl kr ks kh kc km kw) r s h c m w => toldT (.node bk (moveT kw kl) (toldT (.node bn (moveT kw kr) r s h c m w)) ks kh kc km 0)
  | t => t

/-- The right side above. -/
def liftR : Tr → Tr
  | .node bn l (.node bk kl kr ks kh kc km kw) s h c m w => toldT (.node bk (toldT (.node bn l (moveT kw kl) s h c m w)) (moveT kw kr) ks kh kc km 0)
  | t => t

theorem flat_liftL {b : Nat} {l r : Tr} {s : Sp} {h c m : Int} : flat (liftL (.node b l r s h c m 0)) = flat (.node b l r s h c m 0) := by
  cases l with
  | nil => rfl
  | node bk kl kr ks kh kc km kw =>
    show flat (toldT (.node bk (moveT kw kl) (toldT (.node b (moveT kw kr) r s h c m 0)) ks kh kc km 0)) = _
    rw [flat_told, flat_node0, flat_told, flat_node0, flat_node0, flat_move, flat_move]
    show _ = (adds kw (flat kl) ++ [ks] ++ adds kw (flat kr)) ++ [s] ++ flat r
    simp only [List.append_assoc]

theorem flat_liftR {b : Nat} {l r : Tr} {s : Sp} {h c m : Int} : flat (liftR (.node b l r s h c m 0)) = flat (.node b l r s h c m 0) := by
  cases r with
  | nil => rfl
  | node bk kl kr ks kh kc km kw =>
    show flat (toldT (.node bk (toldT (.node b l (moveT kw kl) s h c m 0)) (moveT kw kr) ks kh kc km 0)) = _
    rw [flat_told, flat_node0, flat_told, flat_node0, flat_node0, flat_move, flat_move]
    show _ = flat l ++ [s] ++ (adds kw (flat kl) ++ [ks] ++ adds kw (flat kr))
    simp only [List.append_assoc]

theorem perm_liftL {t : Tr} : (blks (liftL t)).Perm (blks t) := by
  match t with
  | .nil => exact List.Perm.refl _
  | .node b .nil r s h c m w => exact List.Perm.refl _
  | .node b (.node bk kl kr ks kh kc km kw) r s h c m w =>
    show (bk :: (blks (moveT kw kl) ++ blks (toldT (.node b (moveT kw kr) r s h c m w)))).Perm (b :: (bk :: (blks kl ++ blks kr) ++ blks r))
    rw [blks_told, blks_move]
    show (bk :: (blks kl ++ b :: (blks (moveT kw kr) ++ blks r))).Perm _
    rw [blks_move]
    refine List.Perm.trans ?_ (List.Perm.swap b bk _)
    refine List.Perm.cons _ ?_
    show (blks kl ++ b :: (blks kr ++ blks r)).Perm (b :: ((blks kl ++ blks kr) ++ blks r))
    rw [List.append_assoc]
    exact List.perm_middle

theorem perm_liftR {t : Tr} : (blks (liftR t)).Perm (blks t) := by
  match t with
  | .nil => exact List.Perm.refl _
  | .node b l .nil s h c m w => exact List.Perm.refl _
  | .node b l (.node bk kl kr ks kh kc km kw) s h c m w =>
    show (bk :: (blks (toldT (.node b l (moveT kw kl) s h c m w)) ++ blks (moveT kw kr))).Perm (b :: (blks l ++ bk :: (blks kl ++ blks kr)))
    rw [blks_told, blks_move]
    show (bk :: (b :: (blks l ++ blks (moveT kw kl)) ++ blks kr)).Perm _
    rw [blks_move]
    refine List.Perm.trans (List.Perm.swap b bk _) ?_
    refine List.Perm.cons _ ?_
    show (bk :: ((blks l ++ blks kl) ++ blks kr)).Perm (blks l ++ bk :: (blks kl ++ blks kr))
    rw [List.append_assoc]
    exact List.perm_middle.symm

theorem Tells.liftL {b : Nat} {l r : Tr} {s : Sp} {h c m : Int} (hl : Tells l) (hr : Tells r) (hb : ∀ x ∈ flat (.node b l r s h c m 0), 0 ≤ x.b) (hne : l ≠ .nil) : Tells (liftL (.node b l r s h c m 0)) := by
  cases l with
  | nil => exact absurd rfl hne
  | node bk kl kr ks kh kc km kw =>
    obtain ⟨_, _, _, _, h1, h2⟩ := hl
    have hs : 0 ≤ s.b := hb s (by rw [flat_node0]; simp)
    have hk : 0 ≤ ks.b := hb ks (by rw [flat_node0]; show ks ∈ (adds kw (flat kl) ++ [ks] ++ adds kw (flat kr)) ++ [s] ++ flat r; simp)
    exact Tells.told (h := kh) (c := kc) (m := km) (h1.move kw) ((h2.move kw).told hr hs) hk

theorem Tells.liftR {b : Nat} {l r : Tr} {s : Sp} {h c m : Int} (hl : Tells l) (hr : Tells r) (hb : ∀ x ∈ flat (.node b l r s h c m 0), 0 ≤ x.b) (hne : r ≠ .nil) : Tells (liftR (.node b l r s h c m 0)) := by
  cases r with
  | nil => exact absurd rfl hne
  | node bk kl kr ks kh kc km kw =>
    obtain ⟨_, _, _, _, h1, h2⟩ := hr
    have hs : 0 ≤ s.b := hb s (by rw [flat_node0]; simp)
    have hk : 0 ≤ ks.b := hb ks (by rw [flat_node0]; show ks ∈ flat l ++ [s] ++ (adds kw (flat kl) ++ [ks] ++ adds kw (flat kr)); simp)
    exact Tells.told (h := kh) (c := kc) (m := km) (hl.told (h1.move kw) hs) (h2.move kw) hk

def leftT : Tr → Tr | .nil => .nil | .node _ l _ _ _ _ _ _ => l
def rightT : Tr → Tr | .nil => .nil | .node _ _ r _ _ _ _ _ => r

/-- The higher side's far side is no higher than its near one. -/
def nearL (l : Tr) : Tr := if highT (leftT (downT l)) < highT (rightT (downT l)) then liftR (downT l) else downT l
def nearR (r : Tr) : Tr := if highT (rightT (downT r)) < highT (leftT (downT r)) then liftL (downT r) else downT r

/-- A node whose sides are even, by one at most. -/
def evenT : Tr → Tr
  | .nil => .nil
  | .node b l r s h c m w =>
    if highT r + 1 < highT l then liftL (.node b (nearL l) r s (1 + max (highT l) (highT r)) (1 + manyT l + manyT r) (max (max s.b (farT l)) (farT r)) w)
    else if highT l + 1 < highT r then liftR (.node b l (nearR r) s (1 + max (highT l) (highT r)) (1 + manyT l + manyT r) (max (max s.b (farT l)) (farT r)) w)
    else toldT (.node b l r s h c m w)

theorem flat_nearL (t : Tr) : flat (nearL t) = flat t := by
  unfold nearL
  split
  · cases t with
    | nil => rfl
    | node b l r s h c m w => exact flat_liftR.trans (flat_down (.node b l r s h c m w))
  · exact flat_down t

theorem flat_nearR (t : Tr) : flat (nearR t) = flat t := by
  unfold nearR
  split
  · cases t with
    | nil => rfl
    | node b l r s h c m w => exact flat_liftL.trans (flat_down (.node b l r s h c m w))
  · exact flat_down t

theorem perm_nearL (t : Tr) : (blks (nearL t)).Perm (blks t) := by
  unfold nearL
  split
  · exact perm_liftR.trans (by rw [blks_down])
  · rw [blks_down]

theorem perm_nearR (t : Tr) : (blks (nearR t)).Perm (blks t) := by
  unfold nearR
  split
  · exact perm_liftL.trans (by rw [blks_down])
  · rw [blks_down]

theorem nearL_ne {t : Tr} (h : t ≠ .nil) : nearL t ≠ .nil := by
  match t, h with
  | .node b l .nil s hh c m w, _ => unfold nearL; split <;> (intro e; cases e)
  | .node b l (.node bk kl kr ks kh kc km kw) s hh c m w, _ => unfold nearL; split <;> (intro e; cases e)

theorem nearR_ne {t : Tr} (h : t ≠ .nil) : nearR t ≠ .nil := by
  match t, h with
  | .node b .nil r s hh c m w, _ => unfold nearR; split <;> (intro e; cases e)
  | .node b (.node bk kl kr ks kh kc km kw) r s hh c m w, _ => unfold nearR; split <;> (intro e; cases e)

theorem Tells.nearL {t : Tr} (h : Tells t) (hb : ∀ x ∈ flat t, 0 ≤ x.b) : Tells (nearL t) := by
  unfold Go.Proofs.Ytijpienjejfmiaa.nearL
  split
  · rename_i hlt
    cases t with
    | nil => exact trivial
    | node b l r s hh c m w =>
      have hd := h.down
      have hf := flat_down (.node b l r s hh c m w)
      refine Tells.liftR (hd.2.2.2.2.1) (hd.2.2.2.2.2) (fun x hx => hb x (by rw [← hf]; exact hx)) (fun e => ?_)
      have h1 : highT (moveT w r) = 0 := by rw [e]; rfl
      have h2 := hd.2.2.2.2.1.high
      have h3 : highT (moveT w l) < highT (moveT w r) := hlt
      omega
  · exact h.down

theorem Tells.nearR {t : Tr} (h : Tells t) (hb : ∀ x ∈ flat t, 0 ≤ x.b) : Tells (nearR t) := by
  unfold Go.Proofs.Ytijpienjejfmiaa.nearR
  split
  · rename_i hlt
    cases t with
    | nil => exact trivial
    | node b l r s hh c m w =>
      have hd := h.down
      have hf := flat_down (.node b l r s hh c m w)
      refine Tells.liftL (hd.2.2.2.2.1) (hd.2.2.2.2.2) (fun x hx => hb x (by rw [← hf]; exact hx)) (fun e => ?_)
      have h1 : highT (moveT w l) = 0 := by rw [e]; rfl
      have h2 := hd.2.2.2.2.2.high
      have h3 : highT (moveT w r) < highT (moveT w l) := hlt
      omega
  · exact h.down

theorem flat_even {b : Nat} {l r : Tr} {s : Sp} {h c m : Int} : flat (evenT (.node b l r s h c m 0)) = flat l ++ [s] ++ flat r := by
  simp only [evenT]
  split
  · rw [flat_liftL, flat_node0, flat_nearL]
  · split
    · rw [flat_liftR, flat_node0, flat_nearR]
    · rw [flat_told, flat_node0]

theorem perm_even {b : Nat} {l r : Tr} {s : Sp} {h c m w : Int} : (blks (evenT (.node b l r s h c m w))).Perm (b :: (blks l ++ blks r)) := by
  simp only [evenT]
  split
  · exact perm_liftL.trans (List.Perm.cons _ ((perm_nearL l).append_right _))
  · split
    · exact perm_liftR.trans (List.Perm.cons _ ((perm_nearR r).append_left _))
    · rw [blks_told]; exact List.Perm.refl _

theorem Tells.even {b : Nat} {l r : Tr} {s : Sp} {h c m : Int} (hl : Tells l) (hr : Tells r) (hb : ∀ x ∈ flat l ++ [s] ++ flat r, 0 ≤ x.b) : Tells (evenT (.node b l r s h c m 0)) := by
  have hbl : ∀ x ∈ flat l, 0 ≤ x.b := fun x hx => hb x (by simp [hx])
  have hbr : ∀ x ∈ flat r, 0 ≤ x.b := fun x hx => hb x (by simp [hx])
  simp only [evenT]
  split
  · rename_i hlt
    refine Tells.liftL (hl.nearL hbl) hr (fun x hx => hb x ?_) (nearL_ne fun e => ?_)
    · rw [flat_node0, flat_nearL] at hx; exact hx
    · have h1 : highT l = 0 := by rw [e]; rfl
      have := hr.high
      omega
  · split
    · rename_i hlt
      refine Tells.liftR hl (hr.nearR hbr) (fun x hx => hb x ?_) (nearR_ne fun e => ?_)
      · rw [flat_node0, flat_nearR] at hx; exact hx
      · have h1 : highT r = 0 := by rw [e]; rfl
        have := hl.high
        omega
    · exact hl.told hr (hb s (by simp))

/-! ### The order -/
def Sp.lt (x y : Sp) : Prop := x.a < y.a ∨ (x.a = y.a ∧ (x.b < y.b ∨ (x.b = y.b ∧ x.k < y.k)))
instance (x y : Sp) : Decidable (x.lt y) := by unfold Sp.lt; infer_instance

theorem Sp.lt_irrefl (x : Sp) : ¬ x.lt x := by unfold Sp.lt; omega
theorem Sp.lt_trans {x y z : Sp} (h : x.lt y) (g : y.lt z) : x.lt z := by unfold Sp.lt at *; omega
theorem Sp.lt_tri (x y : Sp) : x.lt y ∨ x = y ∨ y.lt x := by
  by_cases h : x.a = y.a ∧ x.b = y.b ∧ x.k = y.k
  · refine .inr (.inl ?_)
    obtain ⟨h1, h2, h3⟩ := h
    cases x; cases y; simp_all
  · unfold Sp.lt
    omega
theorem Sp.lt_add {x y : Sp} (d : Int) : (x.add d).lt (y.add d) ↔ x.lt y := by unfold Sp.lt Sp.add; simp only; omega
theorem Sp.add_inj {x y : Sp} {d : Int} (h : x.add d = y.add d) : x = y := by
  cases x; cases y; simp only [Sp.add, Sp.mk.injEq] at h ⊢; omega

/-- In order, each once. -/
def Ord (l : List Sp) : Prop := l.Pairwise Sp.lt

theorem Ord.adds {l : List Sp} (d : Int) : Ord (adds d l) ↔ Ord l := by
  unfold Ord Go.Proofs.Ytijpienjejfmiaa.adds
  rw [List.pairwise_map]
  exact ⟨fun h => h.imp fun hh => (Sp.lt_add d).1 hh, fun h => h.imp fun hh => (Sp.lt_add d).2 hh⟩

theorem ord_mid {l r : List Sp} {s : Sp} : Ord (l ++ [s] ++ r) ↔ Ord l ∧ Ord r ∧ (∀ x ∈ l, x.lt s) ∧ (∀ x ∈ r, s.lt x) ∧ ∀ x ∈ l, ∀ y ∈ r, x.lt y := by
  unfold Ord
  simp only [List.pairwise_append, List.pairwise_cons, List.Pairwise.nil, List.mem_singleton, List.mem_append]
  constructor
  · rintro ⟨⟨h1, _, h2⟩, h3, h4⟩
    exact ⟨h1, h3, fun x hx => h2 x hx s rfl, fun x hx => h4 s (.inr rfl) x hx, fun x hx y hy => h4 x (.inl hx) y hy⟩
  · rintro ⟨h1, h2, h3, h4, h5⟩
    refine ⟨⟨h1, ⟨fun _ h => absurd h (by simp), trivial⟩, fun x hx y hy => by subst hy; exact h3 x hx⟩, h2, fun x hx y hy => ?_⟩
    rcases hx with hx | rfl
    · exact h5 x hx y hy
    · exact h4 y hy

/-- A span at its place. -/
def insS (s : Sp) : List Sp → List Sp
  | [] => [s]
  | x :: l => if s.lt x then s :: x :: l else if s = x then x :: l else x :: insS s l

theorem insS_left {s x : Sp} (hs : s.lt x) : ∀ (l r : List Sp), insS s (l ++ [x] ++ r) = insS s l ++ [x] ++ r
  | [], r => by show insS s (x :: r) = _; unfold insS; rw [if_pos hs]; rfl
  | y :: l, r => by
    show insS s (y :: (l ++ [x] ++ r)) = _
    unfold insS
    split
    · rfl
    · split
      · rfl
      · rw [insS_left hs l r]; rfl

theorem insS_right {s x : Sp} (hs : x.lt s) {l : List Sp} (hl : ∀ y ∈ l, y.lt x) (r : List Sp) : insS s (l ++ [x] ++ r) = l ++ [x] ++ insS s r := by
  have hno : ∀ y, y.lt s → ∀ t, insS s (y :: t) = y :: insS s t := fun y hy t => by
    show (if s.lt y then s :: y :: t else if s = y then y :: t else y :: insS s t) = _
    rw [if_neg fun h => Sp.lt_irrefl _ (Sp.lt_trans h hy), if_neg fun h => Sp.lt_irrefl y (by rw [h] at hy; exact hy)]
  induction l with
  | nil => exact hno x hs r
  | cons y l ih =>
    show insS s (y :: (l ++ [x] ++ r)) = _
    rw [hno y (Sp.lt_trans (hl y (by simp)) hs), ih fun z hz => hl z (by simp [hz])]; rfl

theorem insS_mid {s : Sp} {l : List Sp} (hl : ∀ y ∈ l, y.lt s) (r : List Sp) : insS s (l ++ [s] ++ r) = l ++ [s] ++ r := by
  induction l with
  | nil => show insS s (s :: r) = _; unfold insS; rw [if_neg (Sp.lt_irrefl s), if_pos rfl]; rfl
  | cons y l ih =>
    show insS s (y :: (l ++ [s] ++ r)) = _
    have hy := hl y (by simp)
    unfold insS
    rw [if_neg fun h => Sp.lt_irrefl _ (Sp.lt_trans h hy), if_neg fun h => Sp.lt_irrefl y (by rw [h] at hy; exact hy), ih fun z hz => hl z (by simp [hz])]; rfl

theorem mem_insS {s x : Sp} {l : List Sp} : x ∈ insS s l ↔ x = s ∨ x ∈ l := by
  induction l with
  | nil => simp [insS]
  | cons y l ih =>
    unfold insS
    split
    · simp
    · split
      · rename_i h; subst h; simp
      · simp only [List.mem_cons, ih]
        constructor
        · rintro (h | h | h)
          · exact .inr (.inl h)
          · exact .inl h
          · exact .inr (.inr h)
        · rintro (h | h | h)
          · exact .inr (.inl h)
          · exact .inl h
          · exact .inr (.inr h)

theorem ord_insS {s : Sp} {l : List Sp} (h : Ord l) : Ord (insS s l) := by
  induction l with
  | nil => exact List.pairwise_singleton _ _
  | cons y l ih =>
    have hy := List.pairwise_cons.1 h
    unfold insS
    split
    · rename_i hs
      refine List.pairwise_cons.2 ⟨fun z hz => ?_, h⟩
      rcases List.mem_cons.1 hz with rfl | hz
      · exact hs
      · exact Sp.lt_trans hs (hy.1 z hz)
    · rename_i h1
      split
      · exact h
      · rename_i h2
        refine List.pairwise_cons.2 ⟨fun z hz => ?_, ih hy.2⟩
        rcases mem_insS.1 hz with rfl | hz
        · rcases Sp.lt_tri z y with h3 | h3 | h3
          · exact absurd h3 h1
          · exact absurd h3 h2
          · exact h3
        · exact hy.1 z hz

/-! ### What is asked, what is cut, what is moved -/
/-- The spans that begin at a place at most, and end at a place at least. -/
def overS (f t : Int) (l : List Sp) : List Sp := l.filter fun x => decide (x.a ≤ f) && decide (t ≤ x.b)

theorem overS_append (f t : Int) (l r : List Sp) : overS f t (l ++ r) = overS f t l ++ overS f t r := List.filter_append ..

theorem overS_far {f t : Int} {l : List Sp} (h : ∀ x ∈ l, x.b < t) : overS f t l = [] :=
  List.filter_eq_nil_iff.2 fun x hx => by have := h x hx; simp; omega

theorem overS_late {f t : Int} {l : List Sp} (h : ∀ x ∈ l, f < x.a) : overS f t l = [] :=
  List.filter_eq_nil_iff.2 fun x hx => by have := h x hx; simp; omega

theorem lt_a {x y : Sp} (h : x.lt y) : x.a ≤ y.a := by unfold Sp.lt at h; omega

/-- Without a span. -/
def remS (s : Sp) (l : List Sp) : List Sp := l.filter fun x => decide (x ≠ s)

theorem remS_append (s : Sp) (l r : List Sp) : remS s (l ++ r) = remS s l ++ remS s r := List.filter_append ..
theorem remS_id {s : Sp} {l : List Sp} (h : s ∉ l) : remS s l = l := List.filter_eq_self.2 fun x hx => by
  have : x ≠ s := fun e => h (e ▸ hx)
  simp [this]
theorem remS_self (s : Sp) : remS s [s] = [] := by simp [remS]
theorem ord_remS {s : Sp} {l : List Sp} (h : Ord l) : Ord (remS s l) := h.filter _
theorem mem_remS {s x : Sp} {l : List Sp} : x ∈ remS s l ↔ x ∈ l ∧ x ≠ s := by simp [remS]

theorem remS_left {s x : Sp} (hs : s.lt x) {l r : List Sp} (ho : Ord (l ++ [x] ++ r)) : remS s (l ++ [x] ++ r) = remS s l ++ [x] ++ r := by
  obtain ⟨_, _, _, h4, _⟩ := ord_mid.1 ho
  rw [remS_append, remS_append, remS_id (l := [x]) (fun h => by rw [List.mem_singleton.1 h] at hs; exact Sp.lt_irrefl x hs), remS_id (l := r) (fun h => Sp.lt_irrefl s (Sp.lt_trans hs (h4 s h)))]

theorem remS_right {s x : Sp} (hs : x.lt s) {l r : List Sp} (ho : Ord (l ++ [x] ++ r)) : remS s (l ++ [x] ++ r) = l ++ [x] ++ remS s r := by
  obtain ⟨_, _, h3, _, _⟩ := ord_mid.1 ho
  rw [remS_append, remS_append, remS_id (l := [x]) (fun h => by rw [List.mem_singleton.1 h] at hs; exact Sp.lt_irrefl x hs), remS_id (l := l) (fun h => Sp.lt_irrefl s (Sp.lt_trans (h3 s h) hs))]

theorem remS_mid {s : Sp} {l r : List Sp} (ho : Ord (l ++ [s] ++ r)) : remS s (l ++ [s] ++ r) = l ++ r := by
  obtain ⟨_, _, h3, h4, _⟩ := ord_mid.1 ho
  rw [remS_append, remS_append, remS_self, remS_id (l := l) (fun h => Sp.lt_irrefl s (h3 s h)), remS_id (l := r) (fun h => Sp.lt_irrefl s (h4 s h)), List.append_nil]

/-- The spans that begin at a place at least, by so much. -/
def tailS (f d : Int) (l : List Sp) : List Sp := l.map fun x => if f ≤ x.a then x.add d else x

theorem tailS_append (f d : Int) (l r : List Sp) : tailS f d (l ++ r) = tailS f d l ++ tailS f d r := List.map_append
theorem tailS_none {f d : Int} {l : List Sp} (h : ∀ x ∈ l, x.a < f) : tailS f d l = l := by
  unfold tailS
  conv => rhs; rw [← List.map_id l]
  exact List.map_congr_left fun x hx => by rw [if_neg (by have := h x hx; omega)]; rfl
theorem tailS_all {f d : Int} {l : List Sp} (h : ∀ x ∈ l, f ≤ x.a) : tailS f d l = adds d l := by
  unfold tailS adds
  exact List.map_congr_left fun x hx => by rw [if_pos (h x hx)]

/-! ### Even, by one at most -/
def Bal : Tr → Prop
  | .nil => True
  | .node _ l r _ h _ _ _ => h = 1 + max (highT l) (highT r) ∧ highT l ≤ highT r + 1 ∧ highT r ≤ highT l + 1 ∧ Bal l ∧ Bal r

theorem Bal.move {t : Tr} (h : Bal t) (d : Int) : Bal (moveT d t) := by cases t <;> exact h
theorem Bal.high {t : Tr} (h : Bal t) : 0 ≤ highT t := by
  induction t with
  | nil => exact Int.le_refl 0
  | node b l r s hh c m w ihl ihr =>
    obtain ⟨h1, _, _, hl, hr⟩ := h
    have := ihl hl
    show 0 ≤ hh
    omega

theorem Bal.down {t : Tr} (h : Bal t) : Bal (downT t) := by
  cases t with
  | nil => exact trivial
  | node b l r s hh c m w =>
    obtain ⟨h1, h2, h3, hl, hr⟩ := h
    refine ⟨?_, ?_, ?_, hl.move w, hr.move w⟩ <;> simp only [high_move] <;> assumption

theorem Bal.told {b : Nat} {l r : Tr} {s : Sp} {h c m w : Int} (hl : Bal l) (hr : Bal r) (h1 : highT l ≤ highT r + 1) (h2 : highT r ≤ highT l + 1) : Bal (toldT (.node b l r s h c m w)) := ⟨rfl, h1, h2, hl, hr⟩
end Go.Proofs.Ytijpienjejfmiaa
