/-
  ref11.plain, ref11.pair: the walks; pair's by shape. Conditions: a text of at most 100000 bytes.
-/
import Derived.Test.YtlbbjcggjmaehaaDoorParse10g
import Derived.Deep.QuietTactic
namespace Go.Proofs.YtlbbjcggjmaehaaDoor
open Go Go.RowKit Go.Maps

def plainB (c : Int) : Bool := (decide (65 ≤ c) && decide (c ≤ 90)) || (decide (97 ≤ c) && decide (c ≤ 122))

set_option maxRecDepth 100000 in
set_option maxHeartbeats 1000000 in
theorem plain_walk (c : Int) (w : World) : Calls Tryd.prog 48 #[.int .i64 c] w fun e w' => e = .returned (.bool (plainB c)) ∧ w' = w := by
  obtain ⟨v, hv⟩ : ∃ v, plainB c = v := ⟨_, rfl⟩
  rw [hv]
  unfold plainB at hv
  rcases (show c < 65 ∨ (65 ≤ c ∧ c ≤ 90) ∨ (90 < c ∧ c < 97) ∨ (97 ≤ c ∧ c ≤ 122) ∨ 122 < c by omega) with h | ⟨h, h'⟩ | ⟨h, h'⟩ | ⟨h, h'⟩ | h
  · have d2 : decide ((65 : Int) ≤ c) = false := decide_eq_false (by omega)
    have d3 : decide ((97 : Int) ≤ c) = false := decide_eq_false (by omega)
    have hv0 : v = false := by rw [← hv]; simp [*]
    subst hv0
    clear hv
    go_enter Tryd.func48, Tryd.ntmps48
    go_wp2_with fail
    go_ret
    exact ⟨rfl, rfl⟩
  · have d6 : decide ((65 : Int) ≤ c) = true := decide_eq_true (by omega)
    have d7 : decide (c ≤ (90 : Int)) = true := decide_eq_true (by omega)
    have hv0 : v = true := by rw [← hv]; simp [*]
    subst hv0
    clear hv
    go_enter Tryd.func48, Tryd.ntmps48
    go_wp2_with fail
    go_ret
    exact ⟨rfl, rfl⟩
  · have d10 : decide ((65 : Int) ≤ c) = true := decide_eq_true (by omega)
    have d11 : decide (c ≤ (90 : Int)) = false := decide_eq_false (by omega)
    have d12 : decide ((97 : Int) ≤ c) = false := decide_eq_false (by omega)
    have hv0 : v = false := by rw [← hv]; simp [*]
    subst hv0
    clear hv
    go_enter Tryd.func48, Tryd.ntmps48
    go_wp2_with fail
    go_ret
    exact ⟨rfl, rfl⟩
  · have d15 : decide ((65 : Int) ≤ c) = true := decide_eq_true (by omega)
    have d16 : decide (c ≤ (90 : Int)) = false := decide_eq_false (by omega)
    have d17 : decide ((97 : Int) ≤ c) = true := decide_eq_true (by omega)
    have d18 : decide (c ≤ (122 : Int)) = true := decide_eq_true (by omega)
    have hv0 : v = true := by rw [← hv]; simp [*]
    subst hv0
    clear hv
    go_enter Tryd.func48, Tryd.ntmps48
    go_wp2_with fail
    go_ret
    exact ⟨rfl, rfl⟩
  · have d21 : decide ((65 : Int) ≤ c) = true := decide_eq_true (by omega)
    have d22 : decide (c ≤ (90 : Int)) = false := decide_eq_false (by omega)
    have d23 : decide ((97 : Int) ≤ c) = true := decide_eq_true (by omega)
    have d24 : decide (c ≤ (122 : Int)) = false := decide_eq_false (by omega)
    have hv0 : v = false := by rw [← hv]; simp [*]
    subst hv0
    clear hv
    go_enter Tryd.func48, Tryd.ntmps48
    go_wp2_with fail
    go_ret
    exact ⟨rfl, rfl⟩

def prCells (l : List (Int × Int)) : List Value := l.flatMap fun p => [.int .i64 p.1, .int .i64 p.2]

theorem pr_cell {w : World} {A : Option Addr} {l : List (Int × Int)} (h : Sl w 2 A l.length (prCells l)) {i : Nat} {x : Int × Int} (hx : l[i]? = some x) :
    ∃ q o, A = some ⟨q, o, none⟩ ∧ w.cell? ⟨q, o + i * 2, none⟩ = some (.int .i64 x.1) ∧ w.cell? ⟨q, o + i * 2 + 1, none⟩ = some (.int .i64 x.2) := by
  have hi := (List.getElem?_eq_some_iff.1 hx).1
  obtain ⟨q, o, rfl, hc⟩ := h.2.2 (by omega)
  have hg := flat_get (f := fun p : Int × Int => [Value.int .i64 p.1, Value.int .i64 p.2]) (k := 2) (fun _ => rfl) hx
  refine ⟨q, o, rfl, hc _ _ (hg 0 (by omega)), ?_⟩
  rw [Nat.add_assoc]; exact hc _ _ (hg 1 (by omega))

theorem set_two {u : World} {b : Nat} {T : TypeId} {fz : Nat × Nat} {v0 v1 : Value} (h : u.heap[b]? = some (.cells #[v0, v1] T fz)) (a0 a1 : Value) :
    ((u.setCell ⟨b, 0, none⟩ a0).setCell ⟨b, 1, none⟩ a1).heap[b]? = some (.cells #[a0, a1] T fz) := by
  have h0 : (u.setCell ⟨b, 0, none⟩ a0).heap[b]? = some (.cells #[a0, v1] T fz) := heap_setCell h 0 a0
  exact heap_setCell h0 1 a1

theorem grown_set2 {a u : World} {r : Option Nat} (h : a.grownBy u r) (b : Nat) (hb : r = some b ∨ a.heap.size ≤ b) (a0 a1 : Value) :
    a.grownBy ((u.setCell ⟨b, 0, none⟩ a0).setCell ⟨b, 1, none⟩ a1) r := grownBy_setCell (grownBy_setCell h b 0 a0 hb) b 1 a1 hb

theorem load_pair {u : World} {k : Nat} {a b : Int} {fz : Nat × Nat} (h : u.heap[k]? = some (.cells #[.int .i64 a, .int .i64 b] 71 fz)) :
    (loadVar 71 ⟨k, 0, none⟩).run Tryd.prog u = .ok (.agg #[.int .i64 a, .int .i64 b]) u := by
  have c0 := cell_of_heap h 0
  have c1 := cell_of_heap h 1
  go_simp

/-- Does a line begin as a pair's? -/
def caseB (s : Wd) : Bool := s.take 5 == [67, 65, 83, 69, 32]

def pairC : Option (List Int) → Option (Int × Int)
  | some [a, b] => if (a == b || plainB a || plainB b) = true then none else some (a, b)
  | _ => none

/-- A pair, out of its text. -/
def pairF (s : Wd) : Option (Int × Int) := if (caseB s && decide (6 ≤ s.length)) = true then pairC (codesB (s.drop 5)) else none

theorem pairC_len {cs : List Int} (h : cs.length ≠ 2) : pairC (some cs) = none := by
  match cs, h with
  | [], _ => rfl
  | [_], _ => rfl
  | [_, _], h => exact absurd rfl h
  | _ :: _ :: _ :: _, _ => rfl

/-- No pair of the list shares a code with this one. -/
def ApartP (l : List (Int × Int)) (a b : Int) : Prop := ∀ x ∈ l, (x.1 == a) = false ∧ (x.1 == b) = false ∧ (x.2 == a) = false ∧ (x.2 == b) = false

/-- What pair answers. -/
def PairRes (s : Wd) (l : List (Int × Int)) (w : World) (e : Ending) (w' : World) : Prop :=
  w.grownBy w' none ∧ ∃ (g s2 : Int) (ok : Bool), e = .returned (.tuple #[.agg #[.int .i64 g, .int .i64 s2], .bool ok]) ∧ (∀ a b, pairF s = some (a, b) → ApartP l a b → ok = true ∧ g = a ∧ s2 = b) ∧ (caseB s = false → ok = false)

set_option maxRecDepth 100000 in
set_option maxHeartbeats 4000000 in
theorem pair_walk (s : Wd) (l : List (Int × Int)) (A : Option Addr) (n cap : Nat) (w : World) (hl : s.length ≤ 100000) (hn : l.length = n) (hnb : n ≤ 100000) (h : Sl w 2 A n (prCells l)) :
    Calls Tryd.prog 30 #[.string ⟨s.toArray⟩, .slice A n cap] w (PairRes s l w) := by
  have hal := World.grownBy_alloc w (.cells #[.int .i64 0, .int .i64 0] 71) none
  have hbl := heap_alloc_new w (.cells #[.int .i64 0, .int .i64 0] 71 (0, 0))
  have hsz := size_wd s
  obtain ⟨L, hL⟩ : ∃ L, s.length = L := ⟨_, rfl⟩
  have hex5 : (⟨s.toArray⟩ : ByteArray).extract 5 L = ⟨((s.take L).drop 5).toArray⟩ := slice_wd s 5 L
  have htl : ((s.take L).drop 5).length ≤ 100000 := by rw [List.length_drop, List.length_take]; omega
  obtain ⟨t, ht⟩ : ∃ t, (s.take L).drop 5 = t := ⟨_, rfl⟩
  rw [ht] at hex5 htl
  obtain ⟨T, hT⟩ : ∃ T, (⟨s.toArray⟩ : ByteArray).extract 0 5 = T := ⟨_, rfl⟩
  obtain ⟨pc, hpc⟩ : ∃ p : Bool, (T.toList == [67, 65, 83, 69, 32]) = p := ⟨_, rfl⟩
  rw [hL] at hsz
  have HAL := Lib.hid hal
  have HBL := Lib.hid hbl
  have HN := Lib.hid hn
  have H := Lib.hid (h.kept hal nofun)
  have hpcs : caseB s = pc := by
    rw [← hpc]; unfold caseB
    rw [← hT, slice_wd, ByteArray.toList_eq]; simp
  have hpf : pairF s = if (pc && decide (6 ≤ L)) = true then pairC (codesB t) else none := by
    unfold pairF
    rw [hpcs, hL, ← ht, ← hL, List.take_length]
  have HPC := Lib.hid hpcs
  have HPF := Lib.hid hpf
  clear hal hbl hL ht hn h hpcs hpf
  have hshort : bodyPost Tryd.prog Tryd.f30 (PairRes s l w) = bodyPost Tryd.prog Tryd.f30 (PairRes s l w) := rfl
  clear hshort
  rcases Nat.lt_or_ge L 6 with h6 | h6
  · have HNF := Lib.hid (show pairF s = none by rw [HPF.out, decide_eq_false (show ¬ 6 ≤ L by omega), Bool.and_false]; rfl)
    have d1 : decide ((L : Int) < 6) = true := decide_eq_true (by omega)
    go_enter Tryd.func30, Tryd.ntmps30
    go_wp2_with fail
    refine bodyPost_ret (results_cell_tmp rfl rfl (load_pair HBL.out) rfl) rfl ?_
    exact ⟨HAL.out, 0, 0, false, rfl, fun _ _ h _ => (by rw [HNF.out] at h; cases h), fun _ => rfl⟩
  · have d1 : decide ((L : Int) < 6) = false := decide_eq_false (by omega)
    cases pc with
    | false =>
      have HNF := Lib.hid (show pairF s = none by rw [HPF.out]; rfl)
      go_enter Tryd.func30, Tryd.ntmps30
      go_wp2_with fail
      refine bodyPost_ret (results_cell_tmp rfl rfl (load_pair HBL.out) rfl) rfl ?_
      exact ⟨HAL.out, 0, 0, false, rfl, fun _ _ h _ => (by rw [HNF.out] at h; cases h), fun _ => rfl⟩
    | true =>
      have HPF2 := Lib.hid (show pairF s = pairC (codesB t) by rw [HPF.out, decide_eq_true (show 6 ≤ L from h6)]; rfl)
      go_enter Tryd.func30, Tryd.ntmps30
      go_wp2_with fail
      refine (codes_walk t _ (by omega)).mono ?_
      rintro e w1 ⟨hg1, hcr⟩
      have HB1 := Lib.hid (grownBy_heap hg1 HBL.out nofun)
      have HG1 := Lib.hid (grownBy_trans HAL.out hg1 nofun)
      have H1 := Lib.hid (H.out.kept hg1 nofun)
      clear hg1
      have hall : (∃ b : Bool, True) := ⟨true, trivial⟩
      clear hall
      have hcase : (∃ a b k q o, e = .returned (.tuple #[.slice (some ⟨q, o, none⟩) 2 k, .bool true]) ∧ w1.cell? ⟨q, o, none⟩ = some (.int .i64 a) ∧ w1.cell? ⟨q, o + 1, none⟩ = some (.int .i64 b) ∧ q ≠ w.heap.size ∧ pairF s = if (a == b || plainB a || plainB b) = true then none else some (a, b)) ∨ (∃ C m k, e = .returned (.tuple #[.slice C m k, .bool true]) ∧ m ≠ 2 ∧ pairF s = none) ∨ (e = .returned (.tuple #[.slice none 0 0, .bool false]) ∧ pairF s = none) := by
        rcases hcr with ⟨cs, C, k, hcs, rfl, hown⟩ | ⟨hcs, rfl⟩
        · by_cases h2 : cs.length = 2
          · obtain ⟨a, b, rfl⟩ : ∃ a b, cs = [a, b] := by
              match cs, h2 with
              | [a, b], _ => exact ⟨a, b, rfl⟩
            have hsl := Sl.of_own hown (by intro x hx; obtain ⟨d, _, rfl⟩ := List.mem_map.1 hx; rfl)
            obtain ⟨q, o, rfl, hc⟩ := hsl.2.2 (by simp)
            refine .inl ⟨a, b, k, q, o, rfl, hc 0 _ rfl, hc 1 _ rfl, ?_, by rw [HPF2.out, hcs]; rfl⟩
            have h9 := (hown.lt q rfl).1
            rw [World.size_alloc] at h9; omega
          · exact .inr (.inl ⟨C, _, k, rfl, h2, by rw [HPF2.out, hcs]; exact pairC_len h2⟩)
        · exact .inr (.inr ⟨rfl, by rw [HPF2.out, hcs]; rfl⟩)
      clear hcr
      rcases hcase with ⟨a, b, k, q, o, rfl, ca, cb, hqne, hpe⟩ | ⟨C, m, k, rfl, hm2, hnf⟩ | ⟨rfl, hnf⟩
      rotate_left
      · have HNF := Lib.hid hnf
        clear hnf
        have e1 : ((m : Int) == 2) = false := by rw [beq_eq_false_iff_ne]; omega
        have e2 : ((m : Int) != 2) = true := by rw [bne, e1]; rfl
        go_upto_region 4 with (fail)
        go_quiet (fail)
        have HB2 := Lib.hid (show (w1.drewN nq).heap[w.heap.size]? = _ from HB1.out)
        have HG2 := Lib.hid (grownBy_drewN HG1.out nq)
        have gz0 := frozen_of_heap HB2.out 0
        have fz0 := cell_of_heap HB2.out 0
        have gz1 := frozen_of_heap HB2.out 1
        have fz1 := cell_of_heap HB2.out 1
        go_wp2_with fail
        have hset := set_two HB2.out (.int .i64 0) (.int .i64 0)
        have hgr := grown_set2 HG2.out w.heap.size (.inr (Nat.le_refl _)) (.int .i64 0) (.int .i64 0)
        obtain ⟨wz, hwz⟩ : ∃ wz, (((w1.drewN nq).setCell ⟨w.heap.size, 0, none⟩ (.int .i64 0)).setCell ⟨w.heap.size, 1, none⟩ (.int .i64 0)) = wz := ⟨_, rfl⟩
        rw [hwz] at hset hgr
        try rw [hwz]
        refine bodyPost_ret (results_cell_tmp rfl rfl (load_pair hset) rfl) rfl ?_
        exact ⟨hgr, 0, 0, false, rfl, fun _ _ h _ => (by rw [HNF.out] at h; cases h), fun _ => rfl⟩
      · have HNF := Lib.hid hnf
        clear hnf
        go_upto_region 4 with (fail)
        go_quiet (fail)
        have HB2 := Lib.hid (show (w1.drewN nq).heap[w.heap.size]? = _ from HB1.out)
        have HG2 := Lib.hid (grownBy_drewN HG1.out nq)
        have gz0 := frozen_of_heap HB2.out 0
        have fz0 := cell_of_heap HB2.out 0
        have gz1 := frozen_of_heap HB2.out 1
        have fz1 := cell_of_heap HB2.out 1
        go_wp2_with fail
        have hset := set_two HB2.out (.int .i64 0) (.int .i64 0)
        have hgr := grown_set2 HG2.out w.heap.size (.inr (Nat.le_refl _)) (.int .i64 0) (.int .i64 0)
        obtain ⟨wz, hwz⟩ : ∃ wz, (((w1.drewN nq).setCell ⟨w.heap.size, 0, none⟩ (.int .i64 0)).setCell ⟨w.heap.size, 1, none⟩ (.int .i64 0)) = wz := ⟨_, rfl⟩
        rw [hwz] at hset hgr
        try rw [hwz]
        refine bodyPost_ret (results_cell_tmp rfl rfl (load_pair hset) rfl) rfl ?_
        exact ⟨hgr, 0, 0, false, rfl, fun _ _ h _ => (by rw [HNF.out] at h; cases h), fun _ => rfl⟩
      · obtain ⟨pa, hpa⟩ : ∃ v, plainB a = v := ⟨_, rfl⟩
        obtain ⟨pb, hpb⟩ : ∃ v, plainB b = v := ⟨_, rfl⟩
        obtain ⟨eab, heab⟩ : ∃ v, (a == b) = v := ⟨_, rfl⟩
        rw [hpa, hpb, heab] at hpe
        have HPE := Lib.hid hpe
        clear hpe
        have CA := Lib.hid ca
        have CB := Lib.hid cb
        go_upto_region 4 with (fail)
        go_cut [51] (fun v wx => ∃ (nq : Nat), v = .bool (eab || pa || pb) ∧ wx = w1.drewN nq)
        case first =>
          cases eab <;> cases pa <;> cases pb
          all_goals
            go_quiet (first | (go_at_call 48; exact Calls.quiet_of_same (plain_walk _ _)))
            go_wp2_with fail
            go_meet
            exact ⟨nq, by first | rfl | trivial, rfl⟩
        case rest =>
          obtain ⟨nq, rfl, rfl⟩ := hcut
          obtain ⟨bad, hbad⟩ : ∃ x, (eab || pa || pb) = x := ⟨_, rfl⟩
          rw [hbad]
          have hpe := HPE.out
          rw [hbad] at hpe
          have HPE := Lib.hid hpe
          clear hpe hbad
          have HB2 := Lib.hid (show (w1.drewN nq).heap[w.heap.size]? = _ from HB1.out)
          have HG2 := Lib.hid (grownBy_drewN HG1.out nq)
          have H2 := Lib.hid (H1.out.kept (grownBy_drewN (grownBy_refl w1 none) nq) nofun)
          have CA2 := Lib.hid (show (w1.drewN nq).cell? ⟨q, o, none⟩ = _ from CA.out)
          have CB2 := Lib.hid (show (w1.drewN nq).cell? ⟨q, o + 1, none⟩ = _ from CB.out)
          cases bad with
          | true =>
            have HNF := Lib.hid (show pairF s = none from HPE.out)
            have gz0 := frozen_of_heap HB2.out 0
            have fz0 := cell_of_heap HB2.out 0
            have gz1 := frozen_of_heap HB2.out 1
            have fz1 := cell_of_heap HB2.out 1
            go_wp2_with fail
            have hset := set_two HB2.out (.int .i64 0) (.int .i64 0)
            have hgr := grown_set2 HG2.out w.heap.size (.inr (Nat.le_refl _)) (.int .i64 0) (.int .i64 0)
            obtain ⟨wz, hwz⟩ : ∃ wz, (((w1.drewN nq).setCell ⟨w.heap.size, 0, none⟩ (.int .i64 0)).setCell ⟨w.heap.size, 1, none⟩ (.int .i64 0)) = wz := ⟨_, rfl⟩
            rw [hwz] at hset hgr
            try rw [hwz]
            refine bodyPost_ret (results_cell_tmp rfl rfl (load_pair hset) rfl) rfl ?_
            exact ⟨hgr, 0, 0, false, rfl, fun _ _ h _ => (by rw [HNF.out] at h; cases h), fun _ => rfl⟩
          | false =>
            clear ca cb heab
            obtain ⟨w2, hw2⟩ : ∃ w2, w1.drewN nq = w2 := ⟨_, rfl⟩
            have hb2 := HB2.out
            have hg2 := HG2.out
            have h2 := H2.out
            have ca := CA2.out
            have cb := CB2.out
            rw [hw2] at hb2 hg2 h2 ca cb ⊢
            have HB2 := Lib.hid hb2
            have HG2 := Lib.hid hg2
            have H2 := Lib.hid h2
            have CA2 := Lib.hid ca
            have CB2 := Lib.hid cb
            clear hb2 hg2 h2 ca cb hw2
            go_wp2_with fail
            go_loopw [8] (fun iv wr => ∃ i : Nat, i ≤ n ∧ iv = .int .i64 (i : Int) ∧ wr.heap = w2.heap ∧ w.grownBy wr none ∧ w2.grownBy wr none) (fun iv _ => n - (RowKit.intOf iv).toNat)
            case atStart => exact ⟨0, Nat.zero_le _, rfl, rfl, HG2.out, grownBy_refl _ none⟩
            case round =>
              obtain ⟨i, hin, rfl, hheap, hgr, hgr2⟩ := hrel
              have HGR := Lib.hid hgr
              have HGR2 := Lib.hid hgr2
              have HHP := Lib.hid hheap
              have ca := hgr2.cell CA2.out nofun
              have cb := hgr2.cell CB2.out nofun
              have HBR := Lib.hid (show wr.heap[w.heap.size]? = some (.cells #[.int .i64 0, .int .i64 0] 71 (0, 0)) from (congrArg (fun h => h[w.heap.size]?) hheap).trans HB2.out)
              clear hgr hgr2 hheap
              rcases Nat.lt_or_ge i n with hlt | hge
              · have hlti : (i : Int) < (n : Int) := by omega
                obtain ⟨x, hx⟩ : ∃ x, l[i]? = some x := ⟨_, List.getElem?_eq_getElem (by rw [HN.out]; exact hlt)⟩
                have hsl := H2.out.kept HGR2.out nofun
                rw [← HN.out] at hsl
                obtain ⟨pq, po, eA, cg, cs⟩ := pr_cell hsl hx
                subst eA
                obtain ⟨xg, xs⟩ := x
                dsimp only at cg cs
                obtain ⟨e1, he1⟩ : ∃ v, (xg == a) = v := ⟨_, rfl⟩
                obtain ⟨e2, he2⟩ : ∃ v, (xg == b) = v := ⟨_, rfl⟩
                obtain ⟨e3, he3⟩ : ∃ v, (xs == a) = v := ⟨_, rfl⟩
                obtain ⟨e4, he4⟩ : ∃ v, (xs == b) = v := ⟨_, rfl⟩
                have HXE := Lib.hid (And.intro (List.mem_of_getElem? hx) (And.intro he1 (And.intro he2 (And.intro he3 he4))))
                clear hsl hx
                go_upto_region 9 with (fail)
                go_cut [100] (fun v wx => ∃ (nq : Nat), v = .bool (e1 || e2 || e3 || e4) ∧ wx = wr.drewN nq)
                case first =>
                  cases e1
                  case' false => cases e2
                  case' false.false => cases e3
                  case' false.false.false => cases e4
                  all_goals
                    go_quiet (fail)
                    go_wp2_with fail
                    go_meet
                    exact ⟨nq, by first | rfl | trivial, rfl⟩
                case rest =>
                  obtain ⟨nq, rfl, rfl⟩ := hcut
                  obtain ⟨bad, hbad⟩ : ∃ x, (e1 || e2 || e3 || e4) = x := ⟨_, rfl⟩
                  rw [hbad]
                  have HBD := Lib.hid hbad
                  clear hbad
                  cases bad with
                  | true =>
                    have hfin : ∀ a' b' : Int, pairF s = some (a', b') → ApartP l a' b' → False := fun a' b' h hap => by
                      rw [HPE.out] at h
                      cases h
                      obtain ⟨h1, h2, h3, h4⟩ := hap _ HXE.out.1
                      have hb := HBD.out
                      rw [← HXE.out.2.1, ← HXE.out.2.2.1, ← HXE.out.2.2.2.1, ← HXE.out.2.2.2.2, h1, h2, h3, h4] at hb
                      cases hb
                    have HFIN := Lib.hid hfin
                    clear hfin
                    have HB3 := Lib.hid (show (wr.drewN nq).heap[w.heap.size]? = some (.cells #[.int .i64 0, .int .i64 0] 71 (0, 0)) from HBR.out)
                    have HG3 := Lib.hid (grownBy_drewN HGR.out nq)
                    have gz0 := frozen_of_heap HB3.out 0
                    have fz0 := cell_of_heap HB3.out 0
                    have gz1 := frozen_of_heap HB3.out 1
                    have fz1 := cell_of_heap HB3.out 1
                    go_wp2_with fail
                    have hset := set_two HB3.out (.int .i64 0) (.int .i64 0)
                    have hgr := grown_set2 HG3.out w.heap.size (.inr (Nat.le_refl _)) (.int .i64 0) (.int .i64 0)
                    obtain ⟨wz, hwz⟩ : ∃ wz, (((wr.drewN nq).setCell ⟨w.heap.size, 0, none⟩ (.int .i64 0)).setCell ⟨w.heap.size, 1, none⟩ (.int .i64 0)) = wz := ⟨_, rfl⟩
                    rw [hwz] at hset hgr
                    try rw [hwz]
                    refine bodyPost_ret (results_cell_tmp rfl rfl (load_pair hset) rfl) rfl ?_
                    exact ⟨hgr, 0, 0, false, rfl, fun a' b' h hap => (HFIN.out a' b' h hap).elim, fun _ => rfl⟩
                  | false =>
                    go_wp2_with fail
                    go_roundw
                    case rel => exact ⟨i + 1, by omega, by go_num, by show wr.heap = _; exact HHP.out, grownBy_drewN HGR.out nq, grownBy_drewN HGR2.out nq⟩
                    case measure => simp [RowKit.intOf]; omega
              · obtain rfl : i = n := by omega
                have hnl : ¬ (i : Int) < (i : Int) := by omega
                go_upto_region 11 with (fail)
                have hset := set_two HBR.out (.int .i64 a) (.int .i64 b)
                have hgr := grown_set2 HGR.out w.heap.size (.inr (Nat.le_refl _)) (.int .i64 a) (.int .i64 b)
                have hg56 := grown_set2 (grownBy_refl wr (some w.heap.size)) w.heap.size (.inl rfl) (.int .i64 a) (.int .i64 b)
                have HSET := Lib.hid hset
                have HGS := Lib.hid hgr
                have HG56 := Lib.hid hg56
                clear hset hgr hg56
                have g0 := frozen_of_heap HBR.out 0
                have g1 := frozen_of_heap HBR.out 1
                have f0 := cell_of_heap HBR.out 0
                have f1 := cell_of_heap HBR.out 1
                go_wp2_with fail
                refine region_tail 7 (fun u => u.cell? ⟨q, o, none⟩ = some (.int .i64 a) ∧ u.cell? ⟨q, o + 1, none⟩ = some (.int .i64 b)) (by kernel_rfl) ⟨ca, cb⟩ (fun hHeld => ?_)
                refine tail_take 0 (v := ?_) rfl (by kernel_rfl) (by kernel_rfl) (by kernel_rfl) (by kernel_rfl) (fun _ _ _ h => h) (by rfl) (fun u hu => ?_) (by assumption) ?_
                rotate_left
                focus ((try dsimp only at hu); obtain ⟨u0, u1⟩ := hu; go_simp; (try with_reducible rfl); done)
                try simp only [Act.put]
                refine tail_take 1 (v := ?_) rfl (by kernel_rfl) (by kernel_rfl) (by kernel_rfl) (by kernel_rfl) (fun _ _ _ h => h) (by rfl) (fun u hu => ?_) (by assumption) ?_
                rotate_left
                focus ((try dsimp only at hu); obtain ⟨u0, u1⟩ := hu; go_simp; (try with_reducible rfl); done)
                try simp only [Act.put]
                refine tail_take 2 (v := ?_) rfl (by kernel_rfl) (by kernel_rfl) (by kernel_rfl) (by kernel_rfl) (fun _ _ _ h => h) (by rfl) (fun u hu => ?_) (by assumption) ?_
                rotate_left
                focus ((try dsimp only at hu); obtain ⟨u0, u1⟩ := hu; go_simp; (try with_reducible rfl); done)
                try simp only [Act.put]
                refine tail_take 3 (v := ?_) rfl (by kernel_rfl) (by kernel_rfl) (by kernel_rfl) (by kernel_rfl) (fun _ _ _ h => h) (by rfl) (fun u hu => ?_) (by assumption) ?_
                rotate_left
                focus ((try dsimp only at hu); obtain ⟨u0, u1⟩ := hu; go_simp; (try with_reducible rfl); done)
                try simp only [Act.put]
                refine tail_take 4 (v := ?_) rfl (by kernel_rfl) (by kernel_rfl) (by kernel_rfl) (by kernel_rfl) (fun _ _ _ h => h) (by rfl) (fun u hu => ?_) (by assumption) ?_
                rotate_left
                focus ((try dsimp only at hu); obtain ⟨u0, u1⟩ := hu; go_simp; (try with_reducible rfl); done)
                try simp only [Act.put]
                refine tail_take 5 (v := ?_) rfl (by kernel_rfl) (by kernel_rfl) (by kernel_rfl) (by kernel_rfl) (fun _ _ _ h => h) (by rfl) (fun u hu => ?_) (by assumption) ?_
                rotate_left
                focus ((try dsimp only at hu); obtain ⟨u0, u1⟩ := hu; go_simp; (try with_reducible rfl); done)
                try simp only [Act.put]
                refine tail_take 6 (v := ?_) rfl (by kernel_rfl) (by kernel_rfl) (by kernel_rfl) (by kernel_rfl) (fun _ _ _ h => h) (by rfl) (fun u hu => ?_) (by assumption) ?_
                rotate_left
                focus ((try dsimp only at hu); obtain ⟨u0, u1⟩ := hu; go_simp; (try with_reducible rfl); done)
                try simp only [Act.put]
                refine tail_last (by kernel_rfl) rfl (fun K hK => ?_)
                go_simp
                refine hK.out _ _ ?_
                clear hK K
                refine tail_step 8 (by kernel_rfl) rfl (fun K hK => ?_)
                go_simp
                refine hK.out _ _ (by exact ⟨(grownBy_drew HG56.out).cell ca (fun e => hqne (by cases e; rfl)), (grownBy_drew HG56.out).cell cb (fun e => hqne (by cases e; rfl))⟩) (fun hHeld17 => ?_)
                clear hK K
                try simp only [Act.put]
                refine tail_done (by kernel_rfl) ?_
                go_wp2_with fail
                obtain ⟨wz, hwz⟩ : ∃ wz, ((wr.setCell ⟨w.heap.size, 0, none⟩ (.int .i64 a)).setCell ⟨w.heap.size, 1, none⟩ (.int .i64 b)) = wz := ⟨_, rfl⟩
                have hz1 := HSET.out
                have hz3 := HGS.out
                rw [hwz] at hz1 hz3 ⊢
                have hz4 : wz.drew.heap[w.heap.size]? = _ := hz1
                refine bodyPost_ret (results_cell_tmp rfl rfl (load_pair hz4) rfl) rfl ?_
                exact ⟨grownBy_drew hz3, a, b, true, rfl, fun a' b' h _ => (by rw [HPE.out] at h; cases h; exact ⟨rfl, rfl, rfl⟩), fun h => (by rw [HPC.out] at h; cases h)⟩
end Go.Proofs.YtlbbjcggjmaehaaDoor
