/-
  The law MarksOver: the walk. No conditions beyond those that the law names.
-/
import Derived.Test.YtijpienjejfmiaaMkL3
namespace Go.Proofs.Ytijpienjejfmiaa
open Go Go.RowKit

/-- The loop that puts the spans. -/
def PutRel (mb K : Nat) (w : World) (iv : Value) (wr : World) : Prop :=
  ∃ j : Nat, j ≤ K ∧ iv = .int .i64 ((j : Int) - 1) ∧ MN mb [] (evs (segS j K)) (ods (segS j K)) w wr

/-- The loop that reads what is answered. -/
def SeeRel (a t : Int) (K : Nat) (wl : World) (av iv : Value) (wr : World) : Prop :=
  ∃ i : Nat, i ≤ K ∧ iv = .int .i64 (i : Int) ∧ av = .int .i64 (cntS a t i : Int) ∧ wr = wl

theorem tmod3 (i : Nat) : (i : Int).tmod 3 = ((i % 3 : Nat) : Int) := by
  rw [Int.tmod_eq_emod_of_nonneg (by omega)]
  omega

theorem measD (i : Nat) : (RowKit.intOf (Value.int .i64 ((i : Int) - 1)) + 1).toNat < (RowKit.intOf (Value.int .i64 (i : Int)) + 1).toNat := by
  simp [RowKit.intOf]
  try omega

theorem overQ_length (f t : Int) (l : List Sp) : (overQ f t l).length ≤ l.length := List.length_filter_le ..

set_option maxRecDepth 100000 in
set_option maxHeartbeats 2000000 in
theorem over_law (n from_ size : Int) (w : World) : Calls Try.prog 4 #[.int .i64 n, .int .i64 from_, .int .i64 size] w (TrueRes w) := by
  have hn1 : 0 ≤ n % 100 ∧ n % 100 < 100 := by omega
  have ha1 : 0 ≤ from_ % 1100 ∧ from_ % 1100 < 1100 := by omega
  have hs1 : 0 ≤ size % 200 ∧ size % 200 < 200 := by omega
  have hpn := fun w => place_any n 100 w (by decide) (by decide)
  have hpa := fun w => place_any from_ 1100 w (by decide) (by decide)
  have hps := fun w => place_any size 200 w (by decide) (by decide)
  obtain ⟨K, hK⟩ : ∃ K : Nat, n % 100 = (K : Int) := ⟨(n % 100).toNat, by omega⟩
  rw [hK] at hn1
  simp only [hK] at hpn
  generalize from_ % 1100 = a at *
  generalize size % 200 = s at *
  have hwk : IntKind.i64.wrap ((K : Int) - 1) = (K : Int) - 1 := wrap_fit (by omega)
  have hwas : IntKind.i64.wrap (a + s) = a + s := wrap_fit (by omega)
  have hw1 : IntKind.i64.wrap 1 = 1 := by decide
  clear hK
  go_enter Try.func4, Try.ntmps4
  go_wp2_with fail
  refine (MN.new w).mono ?_
  rintro e w1 ⟨mb, rfl, h1⟩
  have H1 := Lib.hid h1
  clear h1
  go_wp2_with fail
  refine (hpn w1).mono ?_
  rintro e u1 ⟨rfl, eu⟩
  subst eu
  go_wp2_with fail
  go_loopw [9] (fun iv wr => PutRel mb K w iv wr) (fun iv _ => (RowKit.intOf iv + 1).toNat)
  case atStart => exact ⟨K, Nat.le_refl _, rfl, by rw [segS_none]; exact H1.out⟩
  case round =>
    obtain ⟨j, hj, hiv, hm⟩ := hrel
    cases j with
    | succ i =>
      rw [show ((i + 1 : Nat) : Int) - 1 = (i : Int) by omega] at hiv
      subst hiv
      have hlt : i < K := by omega
      have h10 : IntKind.i64.wrap (10 * (i : Int)) = 10 * (i : Int) := wrap_fit (by omega)
      have h18 : IntKind.i64.wrap (10 * (i : Int) + 8) = 10 * (i : Int) + 8 := wrap_fit (by omega)
      have hi1 : IntKind.i64.wrap ((i : Int) - 1) = (i : Int) - 1 := wrap_fit (by omega)
      have ht := tmod3 i
      have hge : (0 : Int) ≤ (i : Int) := by omega
      by_cases hk : (spI i).k % 2 = 0
      · have hc := hm.put (spI i) (by show (0 : Int) ≤ 10 * (i : Int); omega) (by show 10 * (i : Int) < 10 * (i : Int) + 8; omega) (by show 10 * (i : Int) + 8 ≤ 1099511627776; omega) (by show (0 : Int) ≤ ((i % 3 : Nat) : Int); omega) (by show ((i % 3 : Nat) : Int) ≤ 1000; omega) false hk (by
          have := List.length_filter_le (fun x : Sp => decide (x.k % 2 = 0)) (segS (i + 1) K)
          rw [segS_length] at this
          show (evs (segS (i + 1) K)).length < _
          unfold evs
          omega)
        obtain ⟨e1, e2⟩ := evs_cons hlt hk
        rw [show (!decide (spI i ∈ two false (evs (segS (i + 1) K)) (ods (segS (i + 1) K)))) = true by
            have : spI i ∉ evs (segS (i + 1) K) := fun h => not_in_seg (List.mem_filter.1 h).1
            simp [two, this], show two false (insS (spI i) (evs (segS (i + 1) K))) (evs (segS (i + 1) K)) = evs (segS i K) from e1, show two false (ods (segS (i + 1) K)) (insS (spI i) (ods (segS (i + 1) K))) = ods (segS i K) from e2] at hc
        have HC := Lib.hid hc
        clear hm hc e1 e2 hk
        go_wp2_with fail
        refine HC.out.mono ?_
        rintro e w2 ⟨rfl, h2⟩
        have H2 := Lib.hid h2
        clear h2
        go_wp2_with fail
        go_roundw
        case rel => exact ⟨i, by omega, rfl, H2.out⟩
        case measure => exact measD i
      · have hk1 : (spI i).k % 2 = 1 := by omega
        have hc := hm.put (spI i) (by show (0 : Int) ≤ 10 * (i : Int); omega) (by show 10 * (i : Int) < 10 * (i : Int) + 8; omega) (by show 10 * (i : Int) + 8 ≤ 1099511627776; omega) (by show (0 : Int) ≤ ((i % 3 : Nat) : Int); omega) (by show ((i % 3 : Nat) : Int) ≤ 1000; omega) true hk1 (by
          have := List.length_filter_le (fun x : Sp => !decide (x.k % 2 = 0)) (segS (i + 1) K)
          rw [segS_length] at this
          show (ods (segS (i + 1) K)).length < _
          unfold ods
          omega)
        obtain ⟨e1, e2⟩ := ods_cons hlt hk
        rw [show (!decide (spI i ∈ two true (evs (segS (i + 1) K)) (ods (segS (i + 1) K)))) = true by
            have : spI i ∉ ods (segS (i + 1) K) := fun h => not_in_seg (List.mem_filter.1 h).1
            simp [two, this], show two true (insS (spI i) (evs (segS (i + 1) K))) (evs (segS (i + 1) K)) = evs (segS i K) from e2, show two true (ods (segS (i + 1) K)) (insS (spI i) (ods (segS (i + 1) K))) = ods (segS i K) from e1] at hc
        have HC := Lib.hid hc
        clear hm hc e1 e2 hk hk1
        go_wp2_with fail
        refine HC.out.mono ?_
        rintro e w2 ⟨rfl, h2⟩
        have H2 := Lib.hid h2
        clear h2
        go_wp2_with fail
        go_roundw
        case rel => exact ⟨i, by omega, rfl, H2.out⟩
        case measure => exact measD i
    | zero =>
      change _ = Value.int .i64 (-1) at hiv
      subst hiv
      clear hj H1
      have hc := hm.over a (a + s) (by omega) (by omega)
      rw [over_seg] at hc
      have HC := Lib.hid hc
      clear hm hc
      go_wp2_with fail
      refine (hpa _).mono ?_
      rintro e u1 ⟨rfl, eu⟩
      subst eu
      go_wp2_with fail
      refine (hps _).mono ?_
      rintro e u1 ⟨rfl, eu⟩
      subst eu
      go_wp2_with fail
      refine HC.out.mono ?_
      rintro e w3 ⟨A, c, rfl, hs3, h3⟩
      obtain ⟨A', c', he, hsl⟩ := own_slice hs3
      cases he
      have hc3 := h3.over (a + s) a (by omega) (by omega)
      rw [over_seg] at hc3
      have HSL := Lib.hid hsl
      have HC3 := Lib.hid hc3
      have hrl := overQ_length a (a + s) (segS 0 K)
      rw [segS_length] at hrl
      clear hs3 hsl hc3
      have H3 := Lib.hid h3
      clear h3
      obtain ⟨R, hRR⟩ : ∃ R, overQ a (a + s) (segS 0 K) = R := ⟨_, rfl⟩
      rw [hRR] at HSL hrl ⊢
      go_wp2_with fail
      go_loopw [13, 14] (fun av iv wr => SeeRel a (a + s) K w3 av iv wr) (fun _ iv _ => K - (RowKit.intOf iv).toNat)
      case atStart => exact ⟨0, Nat.zero_le _, rfl, by simp [cntS, segS, overQ], rfl⟩
      case round =>
        obtain ⟨i, hi, rfl, rfl, rfl⟩ := hrel
        rcases Nat.lt_or_ge i K with hlt | hgeK
        · have h10 : IntKind.i64.wrap (10 * (i : Int)) = 10 * (i : Int) := wrap_fit (by omega)
          have h18 : IntKind.i64.wrap (10 * (i : Int) + 8) = 10 * (i : Int) + 8 := wrap_fit (by omega)
          have hi1 : IntKind.i64.wrap ((i : Int) + 1) = (i : Int) + 1 := wrap_fit (by omega)
          have hi2 : wrap64 ((i : Int) + 1) = (i : Int) + 1 := by unfold wrap64; omega
          have ht := tmod3 i
          have hcs := cntS_succ a (a + s) i
          by_cases hp : 10 * (i : Int) < a + s ∧ a < 10 * (i : Int) + 8
          · obtain ⟨q1, q2⟩ := over_get a (a + s) i K hlt hp
            rw [if_pos hp] at hcs
            have q1' : cntS a (a + s) i < R.length := by rw [← hRR]; exact q1
            have q2' : R[cntS a (a + s) i] = spI i := by simp only [← hRR]; exact q2
            generalize hcn : cntS a (a + s) i = cn at *
            obtain ⟨r1, r2, r3⟩ := rowS_at R cn q1'
            rw [q2'] at r1 r2 r3
            obtain ⟨b, o, rfl, hc⟩ := HSL.out.2.2 (by omega)
            have hc0 : wr.cell? ⟨b, o + cn * 3, none⟩ = some (.int .i64 (10 * (i : Int))) := hc (cn * 3) _ r1
            have hc2 := hc (cn * 3 + 2) _ r3
            rw [← Nat.add_assoc] at hc2
            have hc2' : wr.cell? ⟨b, o + cn * 3 + 2, none⟩ = some (.int .i64 ((i % 3 : Nat) : Int)) := hc2
            have hltc : (cn : Int) < (R.length : Int) := Int.ofNat_lt.2 q1'
            have hn1' : IntKind.i64.wrap ((cn : Int) + 1) = (cn : Int) + 1 := wrap_fit (by omega)
            have hn2' : wrap64 ((cn : Int) + 1) = (cn : Int) + 1 := by unfold wrap64; omega
            obtain ⟨p1, p2⟩ := hp
            obtain ⟨km, hkm⟩ : ∃ km, ((i % 3 : Nat) : Int) = km := ⟨_, rfl⟩
            rw [hkm] at ht hc2'
            have hnl : ¬ R.length ≤ cn := by have := q1'; exact Nat.not_le.2 this
            clear hkm hn1 hs1 ha1 hrl hwk hi
            have HCS := Lib.hid hcs
            have HQ := Lib.hid q1'
            clear hc hc2 r1 r2 r3 q1 q2 q2' hcs hcn
            go_wp2_with fail
            go_roundw
            case rel => exact ⟨i + 1, hlt, by simp, by rw [HCS.out]; simp, rfl⟩
            case measure => exact meas hlt
          · rw [if_neg hp] at hcs
            have HCS := Lib.hid hcs
            clear hcs
            by_cases p1 : 10 * (i : Int) < a + s
            · have p2 : ¬ a < 10 * (i : Int) + 8 := fun h => hp ⟨p1, h⟩
              clear hp
              go_wp2_with fail
              go_roundw
              case rel => exact ⟨i + 1, hlt, by simp, by rw [HCS.out]; simp, rfl⟩
              case measure => exact meas hlt
            · clear hp
              go_wp2_with fail
              go_roundw
              case rel => exact ⟨i + 1, hlt, by simp, by rw [HCS.out]; simp, rfl⟩
              case measure => exact meas hlt
        · have hiK : i = K := Nat.le_antisymm hi hgeK
          subst hiK
          have hcn : cntS a (a + s) i = R.length := by rw [← hRR]; rfl
          rw [hcn]
          have hsl2 : (segS 0 i).length = i := by rw [segS_length]; rfl
          have hle2 := overQ_length (a + s) a (segS 0 i)
          rw [hsl2] at hle2
          have hc3 := HC3.out
          obtain ⟨n2, hn2⟩ : ∃ n2, (overQ (a + s) a (segS 0 i)).length = n2 := ⟨_, rfl⟩
          rw [hn2] at hle2
          simp only [hn2] at hc3
          have HC3' := Lib.hid hc3
          have hle3 : (n2 : Int) ≤ (i : Int) := Int.ofNat_le.2 hle2
          have HSG := Lib.hid hsl2
          clear hc3 hn2 hsl2 hcn hwk hn1 hs1 ha1 hrl
          go_wp2_with fail
          refine HC3'.out.mono ?_
          rintro e w4 ⟨A4, c4, rfl, _, h4⟩
          have hc4 := h4.all
          rw [all_seg] at hc4
          simp only [HSG.out] at hc4
          have HC4 := Lib.hid hc4
          clear h4 hc4
          go_wp2_with fail
          refine HC4.out.mono ?_
          rintro e w5 ⟨A5, c5, rfl, _, h5⟩
          have hc5 := h5.all
          rw [all_seg] at hc5
          simp only [HSG.out] at hc5
          have HC5 := Lib.hid hc5
          clear h5 hc5
          go_wp2_with fail
          refine HC5.out.mono ?_
          rintro e w6 ⟨A6, c6, rfl, _, h6⟩
          have HG6 := Lib.hid h6.grown
          clear h6
          go_wp2_with fail
          refine (awake21_walk _).mono ?_
          rintro e w7 ⟨rfl, hg7⟩
          have HG7 := Lib.hid (grownBy_trans HG6.out hg7 nofun)
          clear hg7
          go_wp2_with fail
          go_ret
          exact ⟨rfl, HG7.out⟩
end Go.Proofs.Ytijpienjejfmiaa
