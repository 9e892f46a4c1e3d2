/-
  Layer 15's law DawgKnown: the walk. Every number.
-/
import Derived.Test.YtiiaphgencoijaaDawgKn
import Derived.Test.YtiiaphgencoijaaDawgA
import Derived.Test.YtiiaphgencoijaaHistL
namespace Go.Proofs.Ytiiaphgencoijaa
open Go Go.RowKit Go.Maps

def twoW (w : Wd) : List Wd := [w ++ [97], w ++ [98]]

theorem string_info : (Try.prog.info? 9).map (fun i => (i.zero, i.size, i.bytes)) = some (some (.string ⟨#[]⟩), 1, 16) := by kernel_rfl

theorem strCells_one (ss : List Wd) : ∀ x ∈ strCells ss, x.oneCell' = true := by
  intro x hx
  simp only [strCells, List.mem_map] at hx
  obtain ⟨_, _, rfl⟩ := hx
  rfl

theorem strCells_append (a b : List Wd) : strCells (a ++ b) = strCells a ++ strCells b := by simp [strCells]
theorem strCells_len (a : List Wd) : (strCells a).length = a.length := by simp [strCells]

theorem bytes_push (s : Wd) (b : UInt8) : (⟨s.toArray⟩ : ByteArray) ++ ⟨#[b]⟩ = ⟨(s ++ [b]).toArray⟩ := by
  apply ByteArray.ext
  simp

theorem flat_take {L : List Wd} {j : Nat} {s : Wd} (h : L[j]? = some s) : (L.take (j + 1)).flatMap twoW = (L.take j).flatMap twoW ++ [s ++ [97], s ++ [98]] := by
  rw [List.take_add_one, h, List.flatMap_append]; simp [twoW]

theorem flat_len (L : List Wd) : (L.flatMap twoW).length = 2 * L.length := by
  induction L with
  | nil => rfl
  | cons w L ih => rw [List.flatMap_cons, List.length_append, ih]; simp [twoW]; omega

theorem lvl_word : ∀ (i : Nat) (w : Wd), w ∈ lvl i → w.length = i
  | 0, w, h => by simp [lvl] at h; subst h; rfl
  | i + 1, w, h => by
    simp only [lvl, List.mem_flatMap] at h
    obtain ⟨v, hv, hw⟩ := h
    have := lvl_word i v hv
    simp at hw
    rcases hw with rfl | rfl <;> simp [this]

/-- Two rows of words under way. -/
def KnI (w : World) (i : Nat) (l all : Value) (wr : World) : Prop :=
  ∃ A n c A2 n2 c2, l = .slice A n c ∧ all = .slice A2 n2 c2 ∧ (lvl i).length = n ∧ (alls i).length = n2 ∧ w.grownBy wr none ∧ wr.ownsRow w.heap.size 9 1 (.slice A n c) n (strCells (lvl i)) ∧
    wr.ownsRow w.heap.size 9 1 (.slice A2 n2 c2) n2 (strCells (alls i)) ∧ ∀ b, (Value.slice A n c).ownBlock = some b → (Value.slice A2 n2 c2).ownBlock ≠ some b

set_option maxRecDepth 100000 in
set_option maxHeartbeats 1000000 in
theorem known_walk (a0 : Int) (u : Bool) (w : World) : Calls Try.prog 7 #[.int .i64 a0, .bool u] w (TrueRes w) := by
  obtain ⟨i0, hi, hz0, hz1, hz2⟩ := info_parts string_info
  obtain ⟨k, hK⟩ : ∃ k : Nat, a0 % 7 = k := ⟨(a0 % 7).toNat, by omega⟩
  have hk7 : k < 7 := by omega
  have HK := Lib.hid hK
  have hp6 : ∀ i, i ≤ k → 1 ≤ 2 ^ i ∧ 2 ^ i ≤ 64 := by
    intro i hi
    have : i ≤ 6 := by omega
    exact ⟨Nat.one_le_two_pow, Nat.le_trans (Nat.pow_le_pow_right (by omega) this) (by decide)⟩
  have HP := Lib.hid hp6
  clear hK hp6
  have hlit := World.ownsRow_lit (base := w.heap.size) (size := 1) (e := 9) w #[.string ⟨#[]⟩] 1 (Nat.le_refl _) (by decide) rfl
  have HL := Lib.hid hlit
  clear hlit
  go_enter Try.func7, Try.ntmps7
  go_wp2_with fail
  refine (place_any a0 7 w (by omega) (by omega)).mono ?_
  rintro e w' ⟨rfl, rfl⟩
  rw [HK.out]
  go_wp2_with fail
  go_loopw [6, 7, 8] (fun l all i wr => ∃ j : Nat, j ≤ k ∧ i = .int .i64 j ∧ KnI w j l all wr) (fun _ _ i _ => k - (intOf i).toNat)
  case atStart =>
    exact ⟨0, Nat.zero_le _, rfl, _, 1, _, none, 0, 0, rfl, rfl, rfl, rfl, World.grownBy_alloc _ _ _, HL.out, World.ownsRow_nil _ _ _ _, by simp [Value.ownBlock]⟩
  case round =>
    obtain ⟨i, hik, rfl, A, N, c, A2, n2, c2, rfl, rfl, hN, hn2, hg, ho, ho2, hne⟩ := hrel
    have hN1 : 1 ≤ N ∧ N ≤ 64 := by have := HP.out i hik; have := lvl_len i; omega
    have hn3 : n2 + 1 = N := by have := lvl_len i; have := alls_len i; omega
    have HN := Lib.hid hN
    have HN2 := Lib.hid hn2
    clear hN hn2
    have HO := Lib.hid ho
    have HO2 := Lib.hid ho2
    have HNE := Lib.hid hne
    have HG := Lib.hid hg
    have hwr := hg.size
    clear ho ho2 hne hg
    rcases Nat.lt_or_ge i k with hlt | hge
    · have hsl := Sl.of_own HO.out (strCells_one _)
      have HSL := Lib.hid hsl
      clear hsl
      go_wp2_with (at_builtin; refine wpList_append_sl _ rfl (.tmp 21) (.tmp 22) 44 rfl w.heap.size 9 i0 _ 1 16 Try.underlying44 hi hz0 hz1 hz2 rfl (by decide) (.slice A2 n2 c2) n2 _ rfl HO2.out A N c _ rfl HSL.out (by unfold maxLen; omega) (by omega) hwr ?_)
      rintro v3 w3 ⟨hown3, hg3, hat3⟩
      obtain ⟨A3, c3, rfl⟩ := own_slice hown3
      have hs3 := hg3.size
      have ho3 := ownsRow_kept HO.out hg3 (by
        rcases hb : (Value.slice A N c).ownBlock with _ | b
        · exact .inl rfl
        · exact .inr (fun e => HNE.out b hb e.symm))
      have hlv3 : ∀ b, (Value.slice A N c).ownBlock = some b → b < wr.heap.size := fun b hb => (HO.out.lt b hb).2
      have hgw3 : w.grownBy w3 none := grownBy_trans HG.out hg3 (fun b hb => .inr (HO2.out.lt b hb).1)
      rw [← strCells_append] at hown3
      have hn4 : (alls (i + 1)).length = n2 + N := by rw [alls, List.length_append, HN.out, HN2.out]
      obtain ⟨q, c', e', _, _, hqw⟩ := own_form ho3 (by omega)
      cases e'
      have hsl3 := Sl.of_own ho3 (strCells_one _)
      have HO3 := Lib.hid ho3
      have HA3 := Lib.hid hown3
      have HG3 := Lib.hid hgw3
      have HS3 := Lib.hid hsl3
      clear ho3 hown3 hgw3 hg3 hat3 hsl3
      go_wp2_with fail
      go_loopw [9, 10] (fun mv jv wx => ∃ (j m : Nat) (B : Option Addr) (bc : Nat), j ≤ N ∧ m = 2 * j ∧ jv = .int .i64 j ∧ mv = .slice B m bc ∧ w3.grownBy wx none ∧ wx.ownsRow w3.heap.size 9 1 (.slice B m bc) m (strCells (((lvl i).take j).flatMap twoW))) (fun _ jv _ => N - (intOf jv).toNat)
      case atStart => exact ⟨0, 0, none, 0, Nat.zero_le _, rfl, rfl, rfl, grownBy_refl _ _, World.ownsRow_nil _ _ _ _⟩
      case round =>
        obtain ⟨j, m, B, bc, hj, hm2, rfl, rfl, hgx, hox⟩ := hrel
        have hmb : m ≤ 128 := by omega
        have HM := Lib.hid hm2
        clear hm2
        rcases Nat.lt_or_ge j N with hjlt | hjge
        · obtain ⟨s, hs⟩ : ∃ s, (lvl i)[j]? = some s := ⟨_, List.getElem?_eq_getElem (by rw [HN.out]; exact hjlt)⟩
          obtain ⟨b', o', eb, hcc⟩ := (HS3.out.kept hgx nofun).2.2 (by omega)
          cases eb
          have hcs := hcc j (.string ⟨s.toArray⟩) (by rw [strCells, List.getElem?_map, hs]; rfl)
          rw [Nat.zero_add] at hcs
          have HX := Lib.hid hox
          have HGX := Lib.hid hgx
          have HSS := Lib.hid hs
          have hwx := hgx.size
          have hsl := lvl_word i s (List.mem_of_getElem? hs)
          have hnl : ¬ 9223372036854775807 < s.length + 1 := by omega
          obtain ⟨sa, hsa⟩ : ∃ sa : Wd, s ++ [97] = sa := ⟨_, rfl⟩
          obtain ⟨sb, hsb⟩ : ∃ sb : Wd, s ++ [98] = sb := ⟨_, rfl⟩
          have ea : (⟨s.toArray⟩ : ByteArray) ++ ⟨#[97]⟩ = ⟨sa.toArray⟩ := by rw [← hsa]; exact bytes_push s 97
          have eb : (⟨s.toArray⟩ : ByteArray) ++ ⟨#[98]⟩ = ⟨sb.toArray⟩ := by rw [← hsb]; exact bytes_push s 98
          have HSA := Lib.hid hsa
          have HSB := Lib.hid hsb
          clear hcc hs hox hgx hsa hsb hsl
          go_wp2_with fail
          go_region_law
            (first
              | (refine step_append_sl _ (by rfl) _ _ 44 (by rfl) w3.heap.size 9 i0 _ 1 16 Try.underlying44 hi hz0 hz1 hz2 rfl (by decide) (.slice B m bc) m _ (by rfl) ((HX.out.alloc _).drew) (some ⟨wr.heap.size, 0, none⟩) 2 2 [.string ⟨sa.toArray⟩, .string ⟨sb.toArray⟩] (by rfl) (Sl.of_own (World.ownsRow_lit (base := 0) (size := 1) wr #[.string ⟨sa.toArray⟩, .string ⟨sb.toArray⟩] 2 (Nat.zero_le _) (by decide) rfl) (by intro x hx; simp at hx; rcases hx with rfl | rfl <;> rfl)) (by unfold maxLen; omega) (by omega) (by simp; omega) ?_; intro lv2 w6 happ6; obtain ⟨q6, c6, hv6, _⟩ := own_form happ6.1 (by omega); subst hv6))
          all_goals
            have hg6 : w3.grownBy w6 none := grownBy_trans (grownBy_drew (grownBy_alloc HGX.out _)) happ6.2.1 (fun b hb => .inr (HX.out.lt b hb).1)
            have ho6 := happ6.1
            have ht6 : strCells (((lvl i).take (j + 1)).flatMap twoW) = strCells (((lvl i).take j).flatMap twoW) ++ [.string ⟨sa.toArray⟩, .string ⟨sb.toArray⟩] := by
              rw [flat_take HSS.out, strCells_append, HSA.out, HSB.out]; rfl
            rw [← ht6] at ho6
            have HO6 := Lib.hid ho6
            clear ho6 ht6 happ6
          all_goals (go_wp2_with fail)
          all_goals
            (go_roundw
             case rel => exact ⟨j + 1, m + 2, _, c6, by omega, by have := HM.out; omega, by go_num, rfl, hg6, HO6.out⟩
             case measure => simp [intOf]; omega)
        · obtain rfl : j = N := by omega
          rw [List.take_of_length_le (by rw [HN.out]; exact Nat.le_refl _)] at hox
          have el : (lvl i).flatMap twoW = lvl (i + 1) := rfl
          rw [el] at hox
          have hl1 : (lvl (i + 1)).length = m := by rw [lvl_len, Nat.pow_succ, ← lvl_len, HN.out]; have := HM.out; omega
          have HX := Lib.hid hox
          have HGX := Lib.hid hgx
          have HL1 := Lib.hid hl1
          have HN4 := Lib.hid hn4
          clear hox hgx hl1 hn4 el
          go_wp2_with fail
          go_roundw
          case rel =>
            refine ⟨i + 1, by omega, by go_num, B, m, bc, A3, _, c3, rfl, rfl, HL1.out, HN4.out, grownBy_trans HG3.out HGX.out nofun, ownsRow_base HX.out (by omega), ownsRow_kept HA3.out HGX.out (own_none _), fun b hb e => ?_⟩
            have h1 := (HX.out.lt b hb).1
            have h2 := (HA3.out.lt b e).2
            omega
          case measure => simp [intOf]; omega
    · obtain rfl : i = k := by omega
      obtain ⟨f1, f2, f3⟩ := known_facts i (by simp; omega) u (by cases u <;> simp)
      generalize hr : buildS 201 (putAll (known i u)) [] = r at f2 f3
      have HF1 := Lib.hid f1
      have HR := Lib.hid hr
      clear f1 hr
      cases u
      · have hw := words_own (ss := known i false) HO.out (by omega)
        have HW := Lib.hid hw
        clear hw
        go_wp2_with fail
        refine (build_walk (known i false) A N c wr HW.out).mono ?_
        rintro e w1 hb
        obtain ⟨hg, B, M, lv, rfl, hB, hbd⟩ := build_ok hb (canon_putAll _) HF1.out HR.out
        have hg1 := grownBy_trans HG.out hg nofun
        have HBD := Lib.hid hbd
        clear hbd hb hg
        go_wp2_with fail
        refine (states_walk _ B M _ lv _ _ w1 HBD.out).mono ?_
        rintro e w2 ⟨rfl, rfl⟩
        rw [f2]
        go_wp2_with fail
        refine (has_walk _ B M _ lv _ _ [] w2 HBD.out (by decide)).mono ?_
        rintro e w3 ⟨rfl, hg3⟩
        rw [f3]
        have hg4 := grownBy_trans hg1 hg3 nofun
        rcases Nat.eq_zero_or_pos i with hi0 | hi0
        · have hd : decide (i = 0) = true := decide_eq_true hi0
          have hb0 : ((i : Int) == 0) = true := by rw [hi0]; rfl
          rw [hd]
          go_wp2_with fail
          refine (awake_walk w3).mono ?_
          rintro e w4 ⟨rfl, hg5⟩
          go_wp2_with fail
          go_ret
          exact ⟨rfl, grownBy_trans hg4 hg5 nofun⟩
        · have hd : decide (i = 0) = false := decide_eq_false (by omega)
          have hb0 : ((i : Int) == 0) = false := by rw [beq_eq_false_iff_ne]; omega
          rw [hd]
          go_wp2_with fail
          refine (awake_walk w3).mono ?_
          rintro e w4 ⟨rfl, hg5⟩
          go_wp2_with fail
          go_ret
          exact ⟨rfl, grownBy_trans hg4 hg5 nofun⟩
      · have hsl := Sl.of_own HO2.out (strCells_one _)
        have HSL := Lib.hid hsl
        clear hsl
        go_wp2_with (at_builtin; refine wpList_append_sl _ rfl (.tmp 45) (.tmp 46) 44 rfl w.heap.size 9 i0 _ 1 16 Try.underlying44 hi hz0 hz1 hz2 rfl (by decide) (.slice A N c) N _ rfl HO.out A2 n2 c2 _ rfl HSL.out (by unfold maxLen; omega) (by omega) hwr ?_)
        rintro v3 w0 ⟨hown3, hg3, hat3⟩
        obtain ⟨A3, c3, rfl⟩ := own_slice hown3
        rw [← strCells_append] at hown3
        have hgw := grownBy_trans HG.out hg3 (fun b hb => .inr (HO.out.lt b hb).1)
        have hw := words_own (ss := known i true) hown3 (by omega)
        have HW := Lib.hid hw
        have HGW := Lib.hid hgw
        clear hw hown3 hg3 hat3 hgw
        go_wp2_with fail
        refine (build_walk (known i true) A3 _ c3 w0 HW.out).mono ?_
        rintro e w1 hb
        obtain ⟨hg, B, M, lv, rfl, hB, hbd⟩ := build_ok hb (canon_putAll _) HF1.out HR.out
        have hg1 := grownBy_trans HGW.out hg nofun
        have HBD := Lib.hid hbd
        clear hbd hb hg
        go_wp2_with fail
        refine (states_walk _ B M _ lv _ _ w1 HBD.out).mono ?_
        rintro e w2 ⟨rfl, rfl⟩
        rw [f2]
        go_wp2_with fail
        refine (has_walk _ B M _ lv _ _ [] w2 HBD.out (by decide)).mono ?_
        rintro e w3 ⟨rfl, hg3⟩
        rw [f3]
        have hg4 := grownBy_trans hg1 hg3 nofun
        go_wp2_with fail
        refine (awake_walk w3).mono ?_
        rintro e w4 ⟨rfl, hg5⟩
        go_wp2_with fail
        go_ret
        exact ⟨rfl, grownBy_trans hg4 hg5 nofun⟩
end Go.Proofs.Ytiiaphgencoijaa
