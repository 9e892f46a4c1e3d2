/-
  The document's places: their languages in a row (Set, At). Conditions: ranges up to 3000.
-/
import Derived.Test.YtijpienjejfmiaaRg4
namespace Go.Proofs.Ytijpienjejfmiaa
open Go Go.RowKit

abbrev iV (l : List Int) : List Value := l.map fun x => .int .i64 x

theorem int_info : (Try.prog.info? 3).map (fun i => (i.zero, i.size, i.bytes)) = some (some (.int .i64 0), 1, 8) := by kernel_rfl

theorem iV_one (l : List Int) : ∀ x ∈ iV l, x.oneCell' = true := fun x hx => by
  obtain ⟨y, _, rfl⟩ := List.mem_map.1 hx
  rfl

/-- A row of numbers of a call's own. -/
abbrev Ints (w : World) (base : Nat) (v : Value) (l : List Int) : Prop := w.ownsRow base 3 1 v l.length (iV l)

/-- The document's places in memory. -/
structure R2 (q : Nat) (l : List Int) (v : Value) (w : World) : Prop where
  obj : w.heap[q]? = some (.cells #[v] 42 (0, 0))
  own : Ints w (q + 1) v l

/-- What a call leaves of them. -/
structure R2s (q : Nat) (l : List Int) (v : Value) (w w' : World) : Prop where
  now : ∃ v', R2 q l v' w' ∧ ∀ g, v'.ownBlock = some g → v.ownBlock = some g ∨ w.heap.size ≤ g
  only : Only (q :: ownB v) w w'

theorem int_slice {w : World} {base : Nat} {v : Value} {l : List Int} (h : Ints w base v l) : ∃ A c, v = .slice A l.length c ∧ Sl w 1 A l.length (iV l) := by
  have h' := h
  rcases h.2 with ⟨rfl, h0⟩ | ⟨q, cap, cur, rfl, _⟩
  · refine ⟨none, 0, by rw [h0], ?_⟩
    have hl : l = [] := List.eq_nil_of_length_eq_zero h0
    subst hl
    exact Sl.nil _ _ _
  · exact ⟨some ⟨q, 0, none⟩, cap, rfl, Sl.of_own h' (iV_one l)⟩

theorem own_val {w : World} {base : Nat} {e : TypeId} {size n : Nat} {v : Value} {xs : List Value} (h : w.ownsRow base e size v n xs) : ∃ A c, v = .slice A n c := by
  rcases h.2 with ⟨rfl, rfl⟩ | ⟨q, cap, _, rfl, _⟩
  · exact ⟨none, 0, rfl⟩
  · exact ⟨_, cap, rfl⟩

theorem R2.cell {q : Nat} {l : List Int} {v : Value} {w : World} (h : R2 q l v w) : w.cell? ⟨q, 0, none⟩ = some v := cell_of_heap h.obj 0

theorem R2.off {q : Nat} {l : List Int} {v : Value} {w : World} (h : R2 q l v w) : v.ownBlock ≠ some q := fun e => by
  have := (h.own.lt q e).1
  omega

theorem R2s.refl {q : Nat} {l : List Int} {v : Value} {w : World} (h : R2 q l v w) : R2s q l v w w := ⟨⟨v, h, fun _ hg => .inl hg⟩, Only.refl _ _⟩

theorem mem_ownB {v : Value} {k : Nat} : k ∈ ownB v ↔ v.ownBlock = some k := by
  unfold ownB
  cases v.ownBlock <;> simp [eq_comm]

theorem R2s.trans {q : Nat} {l l' : List Int} {v v' : Value} {w w1 w2 : World} (h1 : R2 q l v' w1) (hn : ∀ g, v'.ownBlock = some g → v.ownBlock = some g ∨ w.heap.size ≤ g) (ho : Only (q :: ownB v) w w1) (h : R2s q l' v' w1 w2) : R2s q l' v w w2 := by
  obtain ⟨⟨v2, h2, h3⟩, h4⟩ := h
  refine ⟨⟨v2, h2, fun g hg => ?_⟩, ho.trans h4 fun b hb => ?_⟩
  · rcases h3 g hg with h5 | h5
    · exact hn g h5
    · exact .inr (Nat.le_trans ho.size h5)
  · rcases List.mem_cons.1 hb with rfl | hb
    · exact .inl (by simp)
    · rcases hn b (mem_ownB.1 hb) with h5 | h5
      · exact .inl (by simp [mem_ownB, h5])
      · exact .inr h5

/-- One more place of none; some places said. -/
def fillN (f g : Int) : Nat → List Int → List Int
  | 0, l => l
  | n + 1, l => (fillN f g n l).set (f.toNat + n) g
theorem fillN_length (f g : Int) : ∀ (n : Nat) (l : List Int), (fillN f g n l).length = l.length
  | 0, _ => rfl
  | n + 1, l => by show ((fillN f g n l).set _ g).length = _; rw [List.length_set, fillN_length]
def padZ (n : Nat) (l : List Int) : List Int := l ++ List.replicate n 0

theorem padZ_length (n : Nat) (l : List Int) : (padZ n l).length = l.length + n := by simp [padZ]
theorem padZ_succ (n : Nat) (l : List Int) : padZ n l ++ [0] = padZ (n + 1) l := by
  unfold padZ
  rw [List.append_assoc, ← List.replicate_succ']

/-- How long the row is that a cell says. -/
def lenC : Option Value → Nat
  | some (.slice _ n _) => n
  | _ => 0

/-- The loop that says the places. -/
def FillRel (q F D : Nat) (g : Int) (P : List Int) (v0 v : Value) (w : World) (iv : Value) (wr : World) : Prop :=
  ∃ k : Nat, k ≤ D ∧ iv = .int .i64 ((F + k : Nat) : Int) ∧ R2 q (fillN F g k P) v wr ∧ Only (q :: ownB v0) w wr

/-- The loop that makes the row long enough. -/
def PadRel (q : Nat) (l : List Int) (v : Value) (w wr : World) (T : Nat) : Prop :=
  ∃ n v', R2 q (padZ n l) v' wr ∧ (∀ g, v'.ownBlock = some g → v.ownBlock = some g ∨ w.heap.size ≤ g) ∧ Only (q :: ownB v) w wr ∧ (n = 0 ∨ l.length + n ≤ T)

set_option maxRecDepth 100000 in
set_option maxHeartbeats 2000000 in
theorem set22_walk {q : Nat} {l : List Int} {v : Value} {w : World} (F T : Nat) (g : Int) (hFT : F ≤ T) (hT : T ≤ 3000) (hg : 0 ≤ g ∧ g ≤ 400) (h : R2 q l v w) :
    Calls Try.prog 21 #[.pointer (some ⟨q, 0, none⟩), .int .i64 (F : Int), .int .i64 (T : Int), .int .i64 g] w fun e w' => e = .returned (.bool true) ∧ R2s q (fillN F g (T - F) (padZ (T - l.length) l)) v w w' := by
  obtain ⟨i0, hi, hz0, hz1, hz2⟩ := info_parts int_info
  have n1 : ¬ (F : Int) < 0 := by omega
  have n2 : ¬ (T : Int) < (F : Int) := by omega
  have n3 : ¬ (1099511627776 : Int) < (T : Int) := by omega
  have n4 : ¬ g < 0 := by omega
  have n5 : ¬ 400 < g := by omega
  go_enter Try.func21, Try.ntmps21
  go_wp2_with fail
  go_loopw [] (fun wr => PadRel q l v w wr T) (fun wr => T - lenC (wr.cell? ⟨q, 0, none⟩))
  case atStart => exact ⟨0, v, by simpa [padZ] using h, fun _ hg => .inl hg, Only.refl _ _, .inl rfl⟩
  case round =>
    obtain ⟨n, v1, h1, hn1, ho1, hT1⟩ := hrel
    obtain ⟨A, c, rfl, hsl⟩ := int_slice h1.own
    have r0 := h1.cell
    have hlen : (padZ n l).length = l.length + n := padZ_length n l
    obtain ⟨N, hN⟩ : ∃ N, l.length + n = N := ⟨_, rfl⟩
    rw [hN] at hlen
    rw [hlen] at hsl r0 h1 hn1
    have HN := Lib.hid (And.intro hN hlen)
    have hN3 : N ≤ l.length ∨ N ≤ T := by omega
    clear hN hlen
    by_cases hlt : N < T
    · have b1 : (N : Int) < (T : Int) := Int.ofNat_lt.2 hlt
      have b2 : (N : Int) < 100000 := by omega
      go_upto_region 4 with (fail)
      have hX := grownBy_alloc (grownBy_refl wr none) (Obj.cells #[.int .i64 0] 3)
      have hsl9 := Sl.of_own (World.ownsRow_lit (base := 0) (size := 1) (e := 3) wr #[.int .i64 0] 1 (Nat.zero_le _) (by decide) rfl) (iV_one [0])
      have hown9 : (wr.alloc (Obj.cells #[.int .i64 0] 3)).ownsRow (q + 1) 3 1 (.slice A N c) N (iV (padZ n l)) := by
        have h2 := ownsRow_kept h1.own hX (own_none _)
        rw [HN.out.2] at h2
        exact h2
      have HSL9 := Lib.hid hsl9
      have HO9 := Lib.hid hown9
      have hq := h1.own
      have hqlt := heap_lt h1.obj
      have H1 := Lib.hid h1
      have HO1 := Lib.hid ho1
      have HN1 := Lib.hid hn1
      clear hsl9 hown9 hX h1 ho1 hn1 hsl hq
      go_wp2_with (at_builtin; refine wpList_append_sl _ rfl (.tmp 48) (.tmp 49) 40 rfl (q + 1) 3 i0 _ 1 8 Try.underlying40 hi hz0 hz1 hz2 rfl (by decide) (.slice A N c) N _ rfl HO9.out (some ⟨wr.heap.size, 0, none⟩) 1 1 _ rfl HSL9.out (by unfold maxLen; omega) (by omega) (by simp; omega) ?_)
      rintro v' w10 ⟨hs10, hg10, hb10⟩
      obtain ⟨A2, c2, rfl⟩ := own_val hs10
      have hX := grownBy_alloc (grownBy_refl wr none) (Obj.cells #[.int .i64 0] 3)
      have ho9 : Only (ownB (.slice A N c)) wr w10 := (Only.ofGrown hX).trans (own_grown hg10) fun b hb => .inl hb
      have ho10 : Only (q :: ownB v) w w10 := HO1.out.trans ho9 fun b hb => by
        rcases HN1.out b (mem_ownB.1 hb) with h5 | h5
        · exact .inl (by simp [mem_ownB, h5])
        · exact .inr h5
      have hobj : w10.heap[q]? = some (.cells #[.slice A N c] 42 (0, 0)) := ho9.heap H1.out.obj fun hm => H1.out.off (mem_ownB.1 hm)
      have hn10 : ∀ g, (Value.slice A2 (N + 1) c2).ownBlock = some g → v.ownBlock = some g ∨ w.heap.size ≤ g := fun g hg => by
        rcases hb10 with h5 | h5
        · exact HN1.out g (by rw [← h5]; exact hg)
        · rw [hg] at h5
          cases h5
          exact .inr (Nat.le_trans HO1.out.size hX.size)
      have r10 := cell_of_heap hobj 0
      have f10 := frozen_of_heap hobj 0
      have hoff : (Value.slice A2 (N + 1) c2).ownBlock ≠ some q := fun e => by
        have := (hs10.lt q e).1
        omega
      have hnew : R2 q (padZ (n + 1) l) (.slice A2 (N + 1) c2) (w10.setCell ⟨q, 0, none⟩ (.slice A2 (N + 1) c2)) := by
        refine ⟨heap_setCell hobj 0 (.slice A2 (N + 1) c2), ?_⟩
        have h5 := ownsRow_setCell hs10 hoff 0 (.slice A2 (N + 1) c2)
        unfold Ints
        rw [← padZ_succ, List.length_append, HN.out.2, show iV (padZ n l ++ [0]) = iV (padZ n l) ++ [.int .i64 0] from by simp [iV]]
        exact h5
      have honew : Only (q :: ownB v) w (w10.setCell ⟨q, 0, none⟩ (.slice A2 (N + 1) c2)) := ho10.setCell (.inl (by simp)) (.slice A2 (N + 1) c2)
      have hcell : (w10.setCell ⟨q, 0, none⟩ (.slice A2 (N + 1) c2)).cell? ⟨q, 0, none⟩ = some (.slice A2 (N + 1) c2) := hnew.cell
      have HNEW := Lib.hid hnew
      have HON := Lib.hid honew
      have HCE := Lib.hid hcell
      have HN10 := Lib.hid hn10
      clear hX ho9 ho10 hobj hn10 hoff hnew honew hcell hs10 hg10 hb10
      go_wp2_with fail
      go_roundw
      case rel => exact ⟨n + 1, _, HNEW.out, HN10.out, HON.out, .inr (by have := HN.out.1; omega)⟩
      case measure =>
        rw [HCE.out, r0]
        show T - (N + 1) < T - N
        omega
    · have b1 : ¬ (N : Int) < (T : Int) := fun h => hlt (Int.ofNat_lt.1 h)
      have hTn : padZ n l = padZ (T - l.length) l := by
        have h5 := HN.out.1
        by_cases h0 : n = 0
        · rw [h0, show T - l.length = 0 by omega]
        · rw [show T - l.length = n by rcases hT1 with h | h <;> omega]
      rw [hTn] at h1
      have hPN : (padZ (T - l.length) l).length = N := by rw [← hTn]; exact HN.out.2
      generalize hP : padZ (T - l.length) l = P at *
      have HPP := Lib.hid hP
      have HPN := Lib.hid hPN
      have H1 := Lib.hid h1
      have HO1 := Lib.hid ho1
      have HN1 := Lib.hid hn1
      have hTN : T ≤ N := by omega
      clear h1 ho1 hn1 hTn HN hP hlt hN3 hT1 hPN hsl
      go_wp2_with fail
      go_loopw [9] (fun iv wr => FillRel q F (T - F) g P v (.slice A N c) w iv wr) (fun iv _ => T - (RowKit.intOf iv).toNat)
      case atStart => exact ⟨0, Nat.zero_le _, rfl, H1.out, HO1.out⟩
      case round =>
        obtain ⟨k, hk, rfl, h2, ho2⟩ := hrel
        obtain ⟨I, hI⟩ : ∃ I, F + k = I := ⟨_, rfl⟩
        have hIT : I ≤ T := by omega
        have r0 := h2.cell
        have hFI : (F : Int) + (k : Int) = (I : Int) := by omega
        rcases Nat.lt_or_ge I T with hlt | hge
        · have b1 : (I : Int) < (T : Int) := Int.ofNat_lt.2 hlt
          have b2 : (I : Int) < (N : Int) := by omega
          have hown : wr.ownsRow (q + 1) 3 1 (.slice A N c) N (iV (fillN F g k P)) := by
            have h5 := h2.own
            unfold Ints at h5
            rw [fillN_length, HPN.out] at h5
            exact h5
          obtain ⟨rb, cap, hv, hcap, hq1, hq2⟩ := own_form hown (by omega)
          cases hv
          have f1 : wr.frozen? ⟨rb, I, none⟩ = false := by
            rcases hown.2 with ⟨hv, _⟩ | ⟨_, _, _, hv, _, hh, _⟩
            · cases hv
            · cases hv
              exact frozen_of_heap hh _
          have hcI : ∃ u, wr.cell? ⟨rb, I, none⟩ = some u := ⟨_, by have h5 := hown.cells (g := rb) rfl I _ (List.getElem?_eq_getElem (by rw [hown.1]; omega)); rw [Addr.add_lit, Nat.zero_add] at h5; exact h5⟩
          obtain ⟨u0, hu0⟩ := hcI
          have hs9 := own_set hown I (by omega) (.int .i64 g)
          have hnew : R2 q (fillN F g (k + 1) P) (.slice (some ⟨rb, 0, none⟩) N c) (wr.setCell ⟨rb, I, none⟩ (.int .i64 g)) := by
            refine ⟨?_, ?_⟩
            · rw [Below.heap_setCell _ _ _ _ (by show q ≠ rb; omega)]
              exact h2.obj
            · unfold Ints
              rw [fillN_length, HPN.out, show iV (fillN F g (k + 1) P) = (iV (fillN F g k P)).set I (.int .i64 g) from ?_]
              · exact hs9
              · show List.map _ ((fillN F g k P).set ((F : Int).toNat + k) g) = _
                rw [List.map_set, Int.toNat_natCast, hI]
          have hon : Only (q :: ownB v) w (wr.setCell ⟨rb, I, none⟩ (.int .i64 g)) := ho2.setCell (by
            rcases HN1.out rb rfl with h5 | h5
            · exact .inl (by simp [mem_ownB, h5])
            · exact .inr h5) _
          have HNEW := Lib.hid hnew
          have HON := Lib.hid hon
          have HI := Lib.hid hI
          clear hown hs9 hnew hon h2 ho2 hI hcap hq1 hq2
          go_wp2_with fail
          go_roundw
          case rel => exact ⟨k + 1, by have := HI.out; omega, by rw [← Nat.add_assoc, HI.out]; first | rfl | simp, HNEW.out, HON.out⟩
          case measure => rw [HI.out]; exact meas hlt
        · have b1 : ¬ (I : Int) < (T : Int) := by omega
          have hkD : T - F = k := by omega
          have HKD := Lib.hid hkD
          have HF := Lib.hid (show R2s q (fillN F g (T - F) P) v w wr from ⟨⟨_, by rw [hkD]; exact h2, HN1.out⟩, ho2⟩)
          clear h2 ho2 hkD
          go_wp2_with fail
          go_ret
          rw [HPP.out]
          exact ⟨rfl, HF.out⟩

set_option maxRecDepth 100000 in
set_option maxHeartbeats 1000000 in
theorem set22_bad (q : Nat) (f t g : Int) (hbad : f < 0 ∨ t < f ∨ 1099511627776 < t ∨ g < 0 ∨ 400 < g) (w : World) :
    Calls Try.prog 21 #[.pointer (some ⟨q, 0, none⟩), .int .i64 f, .int .i64 t, .int .i64 g] w fun e w' => e = .returned (.bool false) ∧ w' = w := by
  go_enter Try.func21, Try.ntmps21
  by_cases h1 : f < 0
  · go_wp2_with fail
    go_ret
    exact ⟨rfl, rfl⟩
  · by_cases h2 : t < f
    · go_wp2_with fail
      go_ret
      exact ⟨rfl, rfl⟩
    · by_cases h3 : 1099511627776 < t
      · go_wp2_with fail
        go_ret
        exact ⟨rfl, rfl⟩
      · by_cases h4 : g < 0
        · go_wp2_with fail
          go_ret
          exact ⟨rfl, rfl⟩
        · have h5 : 400 < g := by omega
          clear hbad
          go_wp2_with fail
          go_ret
          exact ⟨rfl, rfl⟩

/-- The language of a place, in a row. -/
def getL (l : List Int) (p : Int) : Int := if p < 0 then 0 else l.getD p.toNat 0

set_option maxRecDepth 100000 in
set_option maxHeartbeats 1000000 in
theorem at22_walk {q : Nat} {l : List Int} {v : Value} {w : World} (p : Int) (h : R2 q l v w) :
    Calls Try.prog 28 #[.pointer (some ⟨q, 0, none⟩), .int .i64 p] w fun e w' => e = .returned (.int .i64 (getL l p)) ∧ w' = w := by
  have r0 := h.cell
  obtain ⟨A, c, rfl, hsl⟩ := int_slice h.own
  have HSL := Lib.hid hsl
  clear h hsl
  obtain ⟨N, hN⟩ : ∃ N, l.length = N := ⟨_, rfl⟩
  rw [hN] at r0
  by_cases h0 : p < 0
  · have hE : getL l p = 0 := if_pos h0
    rw [hE]
    clear hE
    go_enter Try.func28, Try.ntmps28
    go_wp2_with fail
    go_ret
    exact ⟨rfl, rfl⟩
  · obtain ⟨P, rfl⟩ : ∃ P : Nat, p = (P : Int) := ⟨p.toNat, by omega⟩
    rcases Nat.lt_or_ge P N with hlt | hge
    · have b1 : ¬ (N : Int) ≤ (P : Int) := by omega
      have b2 : (P : Int) < (N : Int) := by omega
      obtain ⟨b, o, rfl, hcc⟩ := HSL.out.2.2 (by omega)
      have hPl : P < l.length := by omega
      have hE : getL l (P : Int) = l[P] := by
        unfold getL
        rw [if_neg h0, Int.toNat_natCast, List.getD_eq_getElem?_getD, List.getElem?_eq_getElem hPl]
        rfl
      have c1 := hcc P (.int .i64 l[P]) (by rw [List.getElem?_map, List.getElem?_eq_getElem hPl]; rfl)
      rw [hE]
      generalize l[P] = u at *
      clear hcc HSL hE
      go_enter Try.func28, Try.ntmps28
      go_wp2_with fail
      go_ret
      exact ⟨rfl, rfl⟩
    · have b1 : (N : Int) ≤ (P : Int) := by omega
      have hE : getL l (P : Int) = 0 := by
        unfold getL
        rw [if_neg h0, Int.toNat_natCast, List.getD_eq_getElem?_getD, List.getElem?_eq_none (by omega)]
        rfl
      rw [hE]
      clear hE
      go_enter Try.func28, Try.ntmps28
      go_wp2_with fail
      go_ret
      exact ⟨rfl, rfl⟩
end Go.Proofs.Ytijpienjejfmiaa
