/-
  Package walk: row: the walk. Conditions: at most 1000 codes, numbers of at most a million.
-/
import Derived.Test.YtdcdhcgfhapbnaaDoorUtf
import Derived.Test.YtdcdhcgfhapbnaaDoorQuiet
import Derived.Deep.QuietTactic
import Derived.BigQuiet
namespace Go.Proofs.YtdcdhcgfhapbnaaDoor
open Go Go.RowKit

def natCells (l : List Nat) : List Value := l.map fun (d : Nat) => Value.int .i64 (d : Int)
def intCells (l : List Int) : List Value := l.map fun (d : Int) => Value.int .i64 d

/-- The row before the last one; none at the beginning. -/
def LastIs (w : World) (v : Value) (k : Nat) (last : Option (List Nat)) : Prop :=
  (last = none ∧ v = .slice none 0 0) ∨ ∃ la b c, last = some la ∧ la.length = k ∧ v = .slice (some b) k c ∧ Sl w 1 (some b) k (natCells la)

theorem LastIs.kept {w w' : World} {v : Value} {k : Nat} {last : Option (List Nat)} (h : LastIs w v k last) (g : w.grownBy w' none) : LastIs w' v k last := by
  rcases h with h | ⟨la, b, c, h1, h2, h3, h4⟩
  · exact .inl h
  · exact .inr ⟨la, b, c, h1, h2, h3, h4.kept g nofun⟩

theorem nat_cell {w : World} {A : Option Addr} {k : Nat} {l : List Nat} (h : Sl w 1 A k (natCells l)) (hl : l.length = k) (h0 : 0 < k) : ∃ b o, A = some ⟨b, o, none⟩ ∧ ∀ j, j < k → w.cell? ⟨b, o + j, none⟩ = some (.int .i64 (l.getD j 0 : Nat)) := by
  obtain ⟨b, o, rfl, hc⟩ := h.2.2 h0
  refine ⟨b, o, rfl, fun j hj => hc j _ ?_⟩
  unfold natCells
  rw [List.getElem?_map, List.getD_eq_getElem?_getD, List.getElem?_eq_getElem (by omega)]
  rfl

theorem int_cell {w : World} {A : Option Addr} {k : Nat} {l : List Int} (h : Sl w 1 A k (intCells l)) (hl : l.length = k) (h0 : 0 < k) : ∃ b o, A = some ⟨b, o, none⟩ ∧ ∀ j, j < k → w.cell? ⟨b, o + j, none⟩ = some (.int .i64 (l.getD j 0)) := by
  obtain ⟨b, o, rfl, hc⟩ := h.2.2 h0
  refine ⟨b, o, rfl, fun j hj => hc j _ ?_⟩
  unfold intCells
  rw [List.getElem?_map, List.getD_eq_getElem?_getD, List.getElem?_eq_getElem (by omega)]
  rfl

theorem rowS_length (codes : List Int) (last : Option (List Nat)) (was : List Nat) (before code : Int) : ∀ k, (rowS codes last was before code k).length = k + 1
  | 0 => rfl
  | k + 1 => by unfold rowS; rw [List.length_append, rowS_length codes last was before code k]; rfl

theorem cellS_le {codes : List Int} {last : Option (List Nat)} {was : List Nat} {before code : Int} {left k : Nat} : cellS codes last was before code left k ≤ was.getD (k + 1) 0 + 1 := by
  exact Nat.le_trans turnS_le (Nat.le_trans (Nat.min_le_left _ _) (Nat.min_le_left _ _))

theorem rowS_le {codes : List Int} {last : Option (List Nat)} {was : List Nat} {before code : Int} {M : Nat} (h : ∀ j, was.getD j 0 ≤ M) : ∀ k, ∀ d ∈ rowS codes last was before code k, d ≤ M + 1
  | 0, d, hd => by
    unfold rowS at hd
    have := h 0
    rw [List.mem_singleton] at hd; omega
  | k + 1, d, hd => by
    unfold rowS at hd
    rcases List.mem_append.1 hd with h1 | h1
    · exact rowS_le h k d h1
    · have h2 := h (k + 1)
      have h3 := @cellS_le codes last was before code ((rowS codes last was before code k).getD k 0) k
      rw [List.mem_singleton] at h1; omega

theorem foldl_min_le : ∀ (l : List Nat) (a : Nat), l.foldl min a ≤ a
  | [], a => Nat.le_refl a
  | x :: l, a => Nat.le_trans (foldl_min_le l (min a x)) (Nat.min_le_left _ _)

theorem leastS_append (row : List Nat) (d : Nat) (h : row ≠ []) : leastS (row ++ [d]) = min (leastS row) d := by
  unfold leastS
  cases row with
  | nil => exact absurd rfl h
  | cons a t => simp [List.foldl_append]

theorem find_info : (Tryd.prog.info? 87).map (·.size) = some 6 := by kernel_rfl
theorem int_info : (Tryd.prog.info? 3).map (fun i => (i.zero, i.size, i.bytes)) = some (some (.int .i64 0), 1, 8) := by kernel_rfl

/-- Have two codes changed places here? -/
def condS (codes : List Int) (last : Option (List Nat)) (before code : Int) (k : Nat) : Bool :=
  match last with
  | none => false
  | some _ => decide (0 < k ∧ codes.getD (k - 1) 0 = code ∧ codes.getD k 0 = before)

theorem turnS_false {codes : List Int} {last : Option (List Nat)} {before code : Int} {k d : Nat} (h : condS codes last before code k = false) : turnS codes last before code k d = d := by
  unfold turnS
  cases last with
  | none => rfl
  | some la => simp only [condS] at h; simp only; rw [if_neg (of_decide_eq_false h)]

theorem turnS_true {codes : List Int} {last : Option (List Nat)} {before code : Int} {k d : Nat} (h : condS codes last before code k = true) : ∃ la, last = some la ∧ 0 < k ∧ turnS codes last before code k d = min d (la.getD (k - 1) 0 + 1) := by
  cases last with
  | none => simp [condS] at h
  | some la =>
    have h2 := of_decide_eq_true h
    exact ⟨la, rfl, h2.1, by unfold turnS; simp only; rw [if_pos h2]⟩

def RowRel (w : World) (codes : List Int) (last : Option (List Nat)) (was : List Nat) (before code : Int) (n : Nat) (rv lv kv : Value) (wr : World) : Prop :=
  ∃ k q rc : Nat, k ≤ n ∧ kv = .int .i64 ((k + 1 : Nat) : Int) ∧ rv = .slice (some ⟨q, 0, none⟩) (k + 1) rc ∧ wr.ownsRow w.heap.size 3 1 (.slice (some ⟨q, 0, none⟩) (k + 1) rc) (k + 1) (natCells (rowS codes last was before code k)) ∧
    lv = .int .i64 (leastS (rowS codes last was before code k) : Nat) ∧ w.grownBy wr none

def RowRes (n : Nat) (most : Nat) (R : List Nat) (w : World) (e : Ending) (w' : World) : Prop :=
  ∃ q rc, e = .returned (.tuple #[.slice (some ⟨q, 0, none⟩) (n + 1) rc, .bool (decide (leastS R ≤ most))]) ∧ w'.ownsRow w.heap.size 3 1 (.slice (some ⟨q, 0, none⟩) (n + 1) rc) (n + 1) (natCells R) ∧ w.grownBy w' none

set_option maxRecDepth 100000 in
set_option maxHeartbeats 2000000 in
theorem row_walk (F n most M : Nat) (aV wV lV sV lastv : Value) (CA WA : Option Addr) (cc wc : Nat) (codes : List Int) (last : Option (List Nat)) (was : List Nat) (before code : Int) (w : World)
    (hn : codes.length = n) (hn2 : n ≤ 1000) (hF : w.heap[F]? = some (.cells #[aV, .slice CA n cc, .int .i64 (most : Int), wV, lV, sV] 87 (0, 0)))
    (hC : Sl w 1 CA n (intCells codes)) (hL : LastIs w lastv (n + 1) last) (hLb : ∀ la, last = some la → ∀ j, la.getD j 0 ≤ M) (hW : Sl w 1 WA (n + 1) (natCells was)) (hwl : was.length = n + 1) (hWb : ∀ j, was.getD j 0 ≤ M) (hM : M ≤ 1000000) :
    Calls Tryd.prog 71 #[.pointer (some ⟨F, 0, none⟩), lastv, .slice WA (n + 1) wc, .int .i64 before, .int .i64 code] w (RowRes n most (rowS codes last was before code n) w) := by
  obtain ⟨i0, hi, hz0, hz1, hz2⟩ := info_parts int_info
  obtain ⟨wb, wo, rfl, hwc⟩ := nat_cell hW hwl (by omega)
  have HF := Lib.hid hF
  have HC := Lib.hid hC
  have HL := Lib.hid hL
  have HLB := Lib.hid hLb
  have HW := Lib.hid hwc
  have HWB := Lib.hid hWb
  have HN := Lib.hid hn
  have c0 := hwc 0 (by omega)
  rw [Nat.add_zero] at c0
  have b0 := hWb 0
  obtain ⟨x0, hx0⟩ : ∃ x0, was.getD 0 0 = x0 := ⟨_, rfl⟩
  rw [hx0] at c0 b0
  clear hF hC hL hLb hwc hWb hn hW hwl
  go_enter Tryd.func71, Tryd.ntmps71
  go_wp2_with fail
  go_loopw [12, 13, 14] (fun rv lv kv wr => RowRel w codes last was before code n rv lv kv wr) (fun _ _ kv _ => n + 1 - (intOf kv).toNat)
  case atStart =>
    refine ⟨0, w.heap.size, 1, Nat.zero_le _, rfl, rfl, ?_, ?_, World.grownBy_alloc _ _ none⟩
    · have h := World.ownsRow_lit (base := w.heap.size) (size := 1) (e := 3) w #[.int .i64 ((x0 : Int) + 1)] 1 (Nat.le_refl _) (by decide) rfl
      have e : natCells (rowS codes last was before code 0) = [.int .i64 ((x0 : Int) + 1)] := by simp [natCells, rowS, ← hx0]
      rw [e]; exact h
    · unfold rowS leastS
      simp [← hx0]
  case round =>
    obtain ⟨k, q, rc, hk, rfl, rfl, hown, rfl, hg⟩ := hrel
    have hFr := cell_of_heap (grownBy_heap hg HF.out nofun) 1
    have HG := Lib.hid hg
    have HO := Lib.hid hown
    rcases Nat.lt_or_ge k n with hlt | hge
    · obtain ⟨cb, co, rfl, hcc⟩ := int_cell HC.out HN.out (by omega)
      have hcode := HG.out.cell (hcc k hlt) nofun
      obtain ⟨ck, hck⟩ : ∃ ck, codes.getD k 0 = ck := ⟨_, rfl⟩
      rw [hck] at hcode
      have HCK := Lib.hid hck
      have HCC := Lib.hid hcc
      clear hcc hck hg hown
      have hkn : (k : Int) + 1 ≤ (n : Int) := by omega
      obtain ⟨tn, htn⟩ : ∃ tn : Nat, (if ck = code then 0 else 1) = tn := ⟨_, rfl⟩
      have ht1 : tn ≤ 1 := by rw [← htn]; split <;> omega
      go_upto_if 43 with (fail)
      go_cut [15] (fun tv wx => tv = .int .i64 (tn : Int) ∧ wx = wr)
      case first =>
        by_cases heq : ck = code
        · rw [if_pos heq] at htn
          subst htn
          go_wp2_with fail
          go_meet
          exact ⟨rfl, rfl⟩
        · rw [if_neg heq] at htn
          subst htn
          go_wp2_with fail
          go_meet
          exact ⟨rfl, rfl⟩
      case rest =>
        obtain ⟨rfl, rfl⟩ := hcut
        have hca := HG.out.cell (HW.out (k + 1) (by omega)) nofun
        have hcc := HG.out.cell (HW.out k (by omega)) nofun
        obtain ⟨rb, ro, erb, hrow⟩ := nat_cell (Sl.of_own HO.out (fun x hx => by obtain ⟨d, _, rfl⟩ := List.mem_map.1 hx; rfl)) (rowS_length _ _ _ _ _ _) (by omega)
        cases erb
        have hcb := hrow k (by omega)
        rw [Nat.zero_add] at hcb
        have hba := HWB.out (k + 1)
        have hbc := HWB.out k
        have hbb : (rowS codes last was before code k).getD k 0 ≤ M + 1 := by
          rw [List.getD_eq_getElem?_getD, List.getElem?_eq_getElem (by rw [rowS_length]; omega)]
          exact rowS_le HWB.out k _ (List.getElem_mem _)
        have hcell : cellS codes last was before code ((rowS codes last was before code k).getD k 0) k = turnS codes last before code k (min (min (was.getD (k + 1) 0 + 1) ((rowS codes last was before code k).getD k 0 + 1)) (was.getD k 0 + tn)) := by
          unfold cellS
          rw [HCK.out, htn]
        generalize ha : was.getD (k + 1) 0 = a at hca hba hcell
        generalize hb : (rowS codes last was before code k).getD k 0 = b at hcb hbb hcell
        generalize hc : was.getD k 0 = c at hcc hbc hcell
        obtain ⟨d0, hd0⟩ : ∃ d0, min (min (a + 1) (b + 1)) (c + tn) = d0 := ⟨_, rfl⟩
        rw [hd0] at hcell
        have hmin : ∀ (ts : Array TypeId) (t : TypeId) (w : World), (Builtin.min_ ts t #[.int .i64 ((a : Int) + 1), .int .i64 ((b : Int) + 1), .int .i64 ((c : Int) + (tn : Int))]).run Tryd.prog w = .ok (.int .i64 (d0 : Int)) w := by
          intro ts t w
          rw [run_min_int3]; congr 2; rw [← hd0]; split <;> split <;> omega
        have hwa : IntKind.i64.wrap ((a : Int) + 1) = (a : Int) + 1 := by rw [IntKind.wrap_i64]; omega
        have hwb : IntKind.i64.wrap ((b : Int) + 1) = (b : Int) + 1 := by rw [IntKind.wrap_i64]; omega
        have hwd : IntKind.i64.wrap ((c : Int) + (tn : Int)) = (c : Int) + (tn : Int) := by rw [IntKind.wrap_i64]; omega
        have hwk : IntKind.i64.wrap (k : Int) = (k : Int) := by rw [IntKind.wrap_i64]; omega
        have hd1 : d0 ≤ M + 1 := by omega
        have hk1 : (k : Int) + 1 < (n : Int) + 1 := by omega
        have hk2 : (k : Int) < (n : Int) + 1 := by omega
        have hk3 : (k : Int) < (k : Int) + 1 := by omega
        have hk4 : (0 : Int) ≤ (k : Int) + 1 := by omega
        have HCELL := Lib.hid hcell
        have HBB := Lib.hid hb
        have HD0 := Lib.hid hd0
        clear hcell ha hb hc hd0 hrow htn
        go_upto_region 9 with (fail)
        go_quiet (fail)
        go_upto_region 10 with (fail)
        obtain ⟨cb, hcbb⟩ : ∃ cb, condS codes last before code k = cb := ⟨_, rfl⟩
        have HCB := Lib.hid hcbb
        clear hcbb
        go_cut [92] (fun bv wx => bv = .bool cb ∧ wx = wc.drewN nq)
        case first =>
          have hcbb := HCB.out
          rcases HL.out with ⟨rfl, rfl⟩ | ⟨la, lb, lc, rfl, hll, rfl, hsl⟩
          · have e0 : cb = false := by rw [← hcbb]; rfl
            subst e0
            clear hcbb
            go_wp2_with fail
            go_meet
            exact ⟨rfl, rfl⟩
          · clear hll hsl
            rcases Nat.eq_zero_or_pos k with rfl | hkp
            · have e0 : cb = false := by rw [← hcbb]; simp [condS]
              subst e0
              clear hcbb
              go_wp2_with fail
              go_meet
              exact ⟨rfl, rfl⟩
            · obtain ⟨k', rfl⟩ : ∃ k', k = k' + 1 := ⟨k - 1, by omega⟩
              obtain ⟨c1, hc1⟩ : ∃ c1, codes.getD k' 0 = c1 := ⟨_, rfl⟩
              have hcc1 := HG.out.cell (HCC.out k' (by omega)) nofun
              rw [hc1] at hcc1
              have hk5 : (k' : Int) < (n : Int) := by omega
              have hk6 : (k' : Int) + 1 < (n : Int) := by omega
              have hk7 : (0 : Int) ≤ (k' : Int) + 1 := by omega
              have et : cb = decide (c1 = code ∧ ck = before) := by
                rw [← hcbb]
                simp only [condS, Nat.add_sub_cancel, hc1, HCK.out]
                simp
              clear hcbb hc1
              by_cases h1 : c1 = code
              · by_cases h2 : ck = before
                · have e0 : cb = true := by rw [et]; exact decide_eq_true ⟨h1, h2⟩
                  subst e0
                  clear et
                  go_wp2_with fail
                  go_meet
                  exact ⟨rfl, rfl⟩
                · have e0 : cb = false := by rw [et]; exact decide_eq_false (fun h => h2 h.2)
                  subst e0
                  clear et
                  go_wp2_with fail
                  go_meet
                  exact ⟨by simp [h2], rfl⟩
              · have e0 : cb = false := by rw [et]; exact decide_eq_false (fun h => h1 h.1)
                subst e0
                clear et
                go_wp2_with fail
                go_meet
                exact ⟨rfl, rfl⟩
        case rest =>
          obtain ⟨rfl, rfl⟩ := hcut
          go_upto_if 92 with (fail)
          go_cut [16] (fun dv wx => dv = .int .i64 (turnS codes last before code k d0 : Nat) ∧ wx = wc.drewN nq)
          case first =>
            cases cb
            · have et := turnS_false (d := d0) HCB.out
              have ET := Lib.hid et
              clear et
              go_wp2_with fail
              go_meet
              exact ⟨by rw [ET.out], rfl⟩
            · obtain ⟨la, hla, hk0, et⟩ := turnS_true (d := d0) HCB.out
              rcases HL.out with ⟨hx, _⟩ | ⟨la', lb, lc, hla2, hll, rfl, hsl⟩
              · rw [hx] at hla; cases hla
              · rw [hla2] at hla
                cases hla
                obtain ⟨k', rfl⟩ : ∃ k', k = k' + 1 := ⟨k - 1, by omega⟩
                rw [Nat.add_sub_cancel] at et
                obtain ⟨lb', lo', elb, hlc⟩ := nat_cell hsl hll (by omega)
                cases elb
                have hlv := HG.out.cell (hlc k' (by omega)) nofun
                have hlb := HLB.out la hla2 k'
                generalize la.getD k' 0 = lk at hlv hlb et
                have hk8 : (k' : Int) < (n : Int) + 1 := by omega
                have hm2 : ∀ (ts : Array TypeId) (t : TypeId) (w : World), (Builtin.min_ ts t #[.int .i64 (d0 : Int), .int .i64 ((lk : Int) + 1)]).run Tryd.prog w = .ok (.int .i64 ((min d0 (lk + 1) : Nat) : Int)) w := by
                  intro ts t w
                  rw [run_min_int2]; congr 2; split <;> omega
                have ET := Lib.hid et
                clear et hsl hll hlc hla2
                go_wp2_with fail
                go_meet
                exact ⟨by rw [ET.out], rfl⟩
          case rest =>
            obtain ⟨rfl, rfl⟩ := hcut
            have hdl := @turnS_le codes last before code k d0
            have hcl := HCELL.out
            generalize turnS codes last before code k d0 = dd at hdl hcl
            have hG3 := grownBy_drewN HG.out nq
            have hal := World.grownBy_alloc (wc.drewN nq) (.cells #[.int .i64 (dd : Int)] 3) none
            have how2 := Lib.hid (ownsRow_kept (ownsRow_drewN HO.out nq) hal (own_none _))
            have hsl := Lib.hid (Sl.of_own (World.ownsRow_lit (base := 0) (size := 1) (e := 3) (wc.drewN nq) #[.int .i64 (dd : Int)] 1 (Nat.zero_le _) (by decide) rfl) (by intro x hx; simp at hx; subst hx; rfl))
            have HAL := Lib.hid (grownBy_trans hG3 hal nofun)
            have hbase := HAL.out.size
            obtain ⟨lst, hlst⟩ : ∃ lst, leastS (rowS codes last was before code k) = lst := ⟨_, rfl⟩
            rw [hlst]
            have hm4 : ∀ (ts : Array TypeId) (t : TypeId) (w : World), (Builtin.min_ ts t #[.int .i64 (lst : Int), .int .i64 (dd : Int)]).run Tryd.prog w = .ok (.int .i64 ((min lst dd : Nat) : Int)) w := by
              intro ts t w
              rw [run_min_int2]; congr 2; split <;> omega
            have HLST := Lib.hid hlst
            have HCL := Lib.hid hcl
            clear hal hG3 hlst hcl
            go_wp2_with (at_builtin; refine wpList_append_sl _ rfl (.tmp 101) (.tmp 103) 36 rfl w.heap.size 3 i0 _ 1 8 Tryd.underlying36 hi hz0 hz1 hz2 rfl (by decide) (.slice (some ⟨q, 0, none⟩) (k + 1) rc) (k + 1) _ rfl how2.out (some ⟨(wc.drewN nq).heap.size, 0, none⟩) 1 1 _ rfl hsl.out (by unfold maxLen; omega) (by omega) hbase ?_)
            rintro v3 w3 ⟨hown3, hg3, hat3⟩
            obtain ⟨q3, c3, rfl, _⟩ := own_form hown3 (by omega)
            have HO3 := Lib.hid hown3
            have hg3' : w.grownBy w3 none := grownBy_trans HAL.out hg3 (fun j hj => .inr (by
              cases hj
              obtain ⟨q', c', e', _, hq', _⟩ := own_form HO.out (by omega)
              cases e'; exact hq'))
            have HG3 := Lib.hid hg3'
            clear hown3 hg3 hat3 hg3'
            go_wp2_with fail
            go_roundw
            case rel =>
              have er : rowS codes last was before code (k + 1) = rowS codes last was before code k ++ [dd] := by
                show rowS codes last was before code k ++ [cellS codes last was before code ((rowS codes last was before code k).getD k 0) k] = _
                rw [HBB.out, HCL.out]
              refine ⟨k + 1, q3, c3, by omega, by go_num, rfl, ?_, ?_, HG3.out⟩
              · rw [er, natCells, List.map_append]; exact HO3.out
              · rw [er, leastS_append _ _ (by intro h; have := rowS_length codes last was before code k; rw [h] at this; cases this), HLST.out]
            case measure => simp [intOf]; omega
    · obtain rfl : k = n := by omega
      have hF2 := cell_of_heap (grownBy_heap hg HF.out nofun) 2
      obtain ⟨lst, hlst⟩ : ∃ lst, leastS (rowS codes last was before code k) = lst := ⟨_, rfl⟩
      rw [hlst]
      have HLST := Lib.hid hlst
      clear hlst hown hg
      go_wp2_with fail
      go_quiet (fail)
      go_wp2_with fail
      go_ret2
      refine ⟨q, rc, ?_, ownsRow_drewN HO.out _, grownBy_drewN HG.out _⟩
      rw [HLST.out]
      simp
end Go.Proofs.YtdcdhcgfhapbnaaDoor
