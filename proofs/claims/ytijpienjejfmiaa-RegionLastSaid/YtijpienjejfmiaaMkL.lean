/-
  Marks' lift on trees of places: nothing leaves int's range there. No conditions beyond those that each law names.
-/
import Derived.Test.YtijpienjejfmiaaMkI
namespace Go.Proofs.Ytijpienjejfmiaa
open Go Go.RowKit

theorem lift0_walk {b : Nat} {k r : Tr} {s : Sp} {h c m wt : Int} (hk : Good k) (hr : Good r) (hne : k ≠ .nil) (w : World) (hl : Lay w (.node b k r s h c m wt)) (hn : (blks (.node b k r s h c m wt)).Nodup) :
    Calls Try.prog 68 #[.pointer (some ⟨b, 0, none⟩), .int .i64 0] w fun e w' => e = .returned (ptrV (liftL (.node b k r s h c m wt))) ∧ Lay w' (liftL (.node b k r s h c m wt)) ∧ Only (b :: (blks k ++ blks r)) w w' := by
  cases k with
  | nil => exact absurd rfl hne
  | node bk kl kr ks kh kc km kw =>
    obtain ⟨_, _, _, hkw, _, _, hgl, hgr⟩ := hk.rg
    have gl1 := hgl.move hkw (by omega)
    have gr1 := hgr.move hkw (by omega)
    have a1 := gl1.high (by omega)
    have a2 := gr1.high (by omega)
    have a3 := hr.rg.high (by omega)
    have a4 := gl1.many (by omega)
    have a5 := gr1.many (by omega)
    have a6 := hr.rg.many (by omega)
    refine (liftL_walk (kw := kw) (kl := kl) (kr := kr) (bk := bk) (bn := b) (r := r) (s := s) (ks := ks) (kh := kh) (kc := kc) (km := km) w hl hn (hgl.fit hkw (by omega)) (hgr.fit hkw (by omega)) (gr1.told (hr.rg.mono (by omega)) (by omega) (by omega)) ⟨wrap_fit (by show _ ≤ 1 + max (highT _) (1 + max (highT _) (highT r)) ∧ 1 + max (highT _) (1 + max (highT _) (highT r)) ≤ _; omega), wrap_fit (by omega), wrap_fit (by show _ ≤ 1 + manyT _ + (1 + manyT _ + manyT r) ∧ 1 + manyT _ + (1 + manyT _ + manyT r) ≤ _; omega)⟩).mono ?_
    rintro e w' ⟨rfl, h1, h2⟩
    refine ⟨rfl, h1, h2.mono fun x hx => .inl ?_⟩
    rcases List.mem_cons.1 hx with rfl | hx
    · simp
    · rcases List.mem_cons.1 hx with rfl | hx
      · simp [blks]
      · rcases List.mem_append.1 hx with hx | hx
        · have := root_sub x hx; simp [blks, this]
        · have := root_sub x hx; simp [blks, this]

theorem lift1_walk {b : Nat} {k r : Tr} {s : Sp} {h c m wt : Int} (hk : Good k) (hr : Good r) (hne : k ≠ .nil) (w : World) (hl : Lay w (.node b r k s h c m wt)) (hn : (blks (.node b r k s h c m wt)).Nodup) :
    Calls Try.prog 68 #[.pointer (some ⟨b, 0, none⟩), .int .i64 1] w fun e w' => e = .returned (ptrV (liftR (.node b r k s h c m wt))) ∧ Lay w' (liftR (.node b r k s h c m wt)) ∧ Only (b :: (blks r ++ blks k)) w w' := by
  cases k with
  | nil => exact absurd rfl hne
  | node bk kl kr ks kh kc km kw =>
    obtain ⟨_, _, _, hkw, _, _, hgl, hgr⟩ := hk.rg
    have gl1 := hgl.move hkw (by omega)
    have gr1 := hgr.move hkw (by omega)
    have a1 := gl1.high (by omega)
    have a2 := gr1.high (by omega)
    have a3 := hr.rg.high (by omega)
    have a4 := gl1.many (by omega)
    have a5 := gr1.many (by omega)
    have a6 := hr.rg.many (by omega)
    refine (liftR_walk (kw := kw) (kl := kl) (kr := kr) (bk := bk) (bn := b) (r := r) (s := s) (ks := ks) (kh := kh) (kc := kc) (km := km) w hl hn (hgl.fit hkw (by omega)) (hgr.fit hkw (by omega)) ((hr.rg.mono (by omega)).told gl1 (by omega) (by omega)) ⟨wrap_fit (by show _ ≤ 1 + max (1 + max (highT r) (highT _)) (highT _) ∧ 1 + max (1 + max (highT r) (highT _)) (highT _) ≤ _; omega), wrap_fit (by show _ ≤ 1 + (1 + manyT r + manyT _) ∧ 1 + (1 + manyT r + manyT _) ≤ _; omega), wrap_fit (by show _ ≤ 1 + (1 + manyT r + manyT _) + manyT _ ∧ 1 + (1 + manyT r + manyT _) + manyT _ ≤ _; omega)⟩).mono ?_
    rintro e w' ⟨rfl, h1, h2⟩
    refine ⟨rfl, h1, h2.mono fun x hx => .inl ?_⟩
    rcases List.mem_cons.1 hx with rfl | hx
    · simp
    · rcases List.mem_cons.1 hx with rfl | hx
      · simp [blks]
      · rcases List.mem_append.1 hx with hx | hx
        · have := root_sub x hx; simp [blks, this]
        · have := root_sub x hx; simp [blks, this]

/-- What waits is below, on a tree of places. -/
theorem down0_walk {b : Nat} {l r : Tr} {s : Sp} {hh c m wt : Int} (w : World) (hg : Good (.node b l r s hh c m wt)) (h : Lay w (.node b l r s hh c m wt)) (hn : (blks (.node b l r s hh c m wt)).Nodup) :
    Calls Try.prog 67 #[.pointer (some ⟨b, 0, none⟩)] w fun e w' => e = .returned (.tuple #[]) ∧ Lay w' (downT (.node b l r s hh c m wt)) ∧ Only (blks (.node b l r s hh c m wt)) w w' := by
  obtain ⟨_, _, _, hkw, _, _, hgl, hgr⟩ := hg.rg
  refine (down_walk w h hn (hgl.fit hkw (by omega)) (hgr.fit hkw (by omega))).mono ?_
  rintro e w' ⟨rfl, h1, h2⟩
  refine ⟨rfl, h1, h2.mono fun x hx => .inl ?_⟩
  rcases List.mem_cons.1 hx with rfl | hx
  · simp [blks]
  · rcases List.mem_append.1 hx with hx | hx
    · have := root_sub x hx; simp [blks, this]
    · have := root_sub x hx; simp [blks, this]
end Go.Proofs.Ytijpienjejfmiaa
