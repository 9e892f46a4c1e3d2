/-
  Region's Set: the walk. No conditions beyond those that each law names.
-/
import Derived.Test.YtijpienjejfmiaaRg2
namespace Go.Proofs.Ytijpienjejfmiaa
open Go Go.RowKit

/-- Runs: of even kinds, of places. -/
def RunsOk (L : List Sp) : Prop := ∀ x ∈ L, InG x ∧ x.k % 2 = 0 ∧ 0 ≤ x.k ∧ x.k ≤ 1000

theorem MN.remove0 {mb : Nat} {K : List (Nat × Obj)} {L0 : List Sp} {w wk : World} (h : MN mb K L0 [] w wk) (s : Sp) (hs : s.k % 2 = 0) :
    Calls Try.prog 13 #[.pointer (some ⟨mb, 0, none⟩), spanV s] wk fun e w' => (∃ b, e = .returned (.bool b)) ∧ MN mb K (remS s L0) [] w w' := by
  refine (h.remove s false hs).mono ?_
  rintro e w' ⟨rfl, h1⟩
  exact ⟨⟨_, rfl⟩, h1⟩

set_option maxRecDepth 100000 in
set_option maxHeartbeats 2000000 in
theorem rset_walk {rb mb : Nat} {K : List (Nat × Obj)} {L : List Sp} {w wk : World} (f t g : Int) (hf : 0 ≤ f) (hft : f < t) (ht : t ≤ 1099511627776) (hg : 0 ≤ g ∧ g ≤ 400) (hL : RunsOk L) (hl : L.length ≤ 274877906944) (h : RN rb mb K L w wk) :
    Calls Try.prog 20 #[.pointer (some ⟨rb, 0, none⟩), .int .i64 f, .int .i64 t, .int .i64 g] wk fun e w' => e = .returned (.bool true) ∧ RN rb mb K (setL f t g L) w w' := by
  have r0 := h.cell
  have hc := h.overH f t (by omega) (by omega)
  have hRl : (overQ f t L).length ≤ L.length := List.length_filter_le ..
  have hRok : RunsOk (overQ f t L) := fun x hx => hL x (List.mem_filter.1 hx).1
  have hlen : ∀ j, (cutAll f t ((overQ f t L).take j) L).length ≤ 824633720832 := fun j => by
    have h1 := cutAll_length f t ((overQ f t L).take j) L
    have h2 : ((overQ f t L).take j).length ≤ (overQ f t L).length := by rw [List.length_take]; exact Nat.min_le_right _ _
    omega
  have hset : setL f t g L = putL f t (g * 2) (cutAll f t (overQ f t L) L) := rfl
  rw [hset]
  have HCL := Lib.hid (fun j => hlen j)
  have hRl2 : (overQ f t L).length ≤ 274877906944 := Nat.le_trans hRl hl
  generalize overQ f t L = R at *
  have hwg : IntKind.i64.wrap (g * 2) = g * 2 := wrap_fit (by omega)
  have hg2 : g * 2 ≤ 1000 := by omega
  have hg3 : (g * 2) % 2 = 0 := by omega
  have HC := Lib.hid hc
  clear hc h hlen hset hRl
  have hne : (f == t) = false := by rw [beq_eq_false_iff_ne]; omega
  have hnf : ¬ f < 0 := by omega
  have hnt : ¬ t < f := by omega
  have hnt2 : ¬ 1099511627776 < t := by omega
  have hng : ¬ g < 0 := by omega
  have hng2 : ¬ 400 < g := by omega
  go_enter Try.func20, Try.ntmps20
  go_wp2_with fail
  refine HC.out.mono ?_
  rintro e w1 ⟨A, c, rfl, hh⟩
  have hrn : ∃ K', RN rb mb K' L w w1 ∧ (∀ q' wx L', RN rb mb K' L' w wx → RN rb mb K L' w wx ∧ (0 < R.length → q' = 0 → ∃ q, A = some ⟨q, 0, none⟩ ∧ ∀ i u, (rowS R)[i]? = some u → wx.cell? ⟨q, i, none⟩ = some u)) := by
    rcases hh with ⟨rfl, h1⟩ | ⟨q, cur, rfl, htk, h1⟩
    · exact ⟨K, h1, fun _ wx L' hx => ⟨hx, fun h0 => absurd h0 (by simp)⟩⟩
    · exact ⟨_, RN.swap h1, fun _ wx L' hx => ⟨RN.drop hx, fun _ _ => ⟨q, rfl, held_row hx (by simp) htk⟩⟩⟩
  obtain ⟨K', h1, hback⟩ := hrn
  have H1 := Lib.hid h1
  have HBK := Lib.hid hback
  clear h1 hback hh
  go_wp2_with fail
  go_loopw [41] (fun iv wr => SetRel rb mb K' f t R L w iv wr) (fun iv _ => R.length - (RowKit.intOf iv).toNat)
  case atStart => exact ⟨0, Nat.zero_le _, rfl, H1.out⟩
  case round =>
    obtain ⟨j, hj, rfl, hm⟩ := hrel
    rcases Nat.lt_or_ge j R.length with hlt | hge
    · obtain ⟨q, rfl, hrow⟩ := (HBK.out 0 _ _ hm).2 (by omega) rfl
      obtain ⟨r1, r2, r3⟩ := rowS_at R j hlt
      have hc0 := hrow _ _ r1
      have hc1 := hrow _ _ r2
      have hc2 := hrow _ _ r3
      have hct := cutAll_take (f := f) (t := t) hlt L
      obtain ⟨⟨s1, s2, s3⟩, s4, s5, s6⟩ := hRok _ (List.getElem_mem hlt)
      have hltI : (j : Int) < (R.length : Int) := Int.ofNat_lt.2 hlt
      generalize R[j] = s at *
      have hA := hm.alloc (spO s)
      have h2 : RN rb mb ((wr.heap.size, spO s) :: K') (cutAll f t (R.take j) L) w (wr.alloc (spO s)) := RN.swap hA
      have H2 := Lib.hid h2
      have hw6 : IntKind.i64.wrap ((j : Int) + 1) = (j : Int) + 1 := wrap_fit (by omega)
      have HCT := Lib.hid hct
      clear r1 r2 r3 hrow hm hA h2 hct
      go_upto_region 8 with (fail)
      generalize hbx : wr.heap.size = bx at *
      generalize hw7 : wr.alloc (spO s) = w7 at *
      have rr := H2.out.cell
      have hb := H2.out.held (p := (bx, spO s)) (by simp)
      have b0 := cell_of_heap hb 0
      have b1 := cell_of_heap hb 1
      have b2 := cell_of_heap hb 2
      clear hc0 hc1 hc2 hb
      refine region_pre 5 (fun u => u = w7.drew) (by kernel_rfl) rfl (fun hHeld => ?_)
      refine pre_free 0 (v := ?_) rfl (by kernel_rfl) (by kernel_rfl) (by kernel_rfl) (by kernel_rfl) (fun _ _ _ h => h) (by rfl) (fun u => ?_) (by assumption) ?_
      rotate_left
      focus (go_simp; (try with_reducible rfl); done)
      try simp only [Act.put, List.setIfInBounds_toArray, List.set_cons_zero, List.set_cons_succ]
      refine pre_free 1 (v := ?_) rfl (by kernel_rfl) (by kernel_rfl) (by kernel_rfl) (by kernel_rfl) (fun _ _ _ h => h) (by rfl) (fun u => ?_) (by assumption) ?_
      rotate_left
      focus (go_simp; (try with_reducible rfl); done)
      try simp only [Act.put, List.setIfInBounds_toArray, List.set_cons_zero, List.set_cons_succ]
      refine pre_free 2 (v := ?_) rfl (by kernel_rfl) (by kernel_rfl) (by kernel_rfl) (by kernel_rfl) (fun _ _ _ h => h) (by rfl) (fun u => ?_) (by assumption) ?_
      rotate_left
      focus (go_simp; (try with_reducible rfl); done)
      try simp only [Act.put, List.setIfInBounds_toArray, List.set_cons_zero, List.set_cons_succ]
      refine pre_load 3 (v := ?_) rfl (by kernel_rfl) (by kernel_rfl) (by kernel_rfl) (by kernel_rfl) (fun _ _ _ h => h) (by rfl) (fun u hu => ?_) (by assumption) ?_
      rotate_left
      focus ((try dsimp only at hu); go_simp; (try with_reducible rfl); done)
      try simp only [Act.put, List.setIfInBounds_toArray, List.set_cons_zero, List.set_cons_succ]
      refine pre_load 4 (v := ?_) rfl (by kernel_rfl) (by kernel_rfl) (by kernel_rfl) (by kernel_rfl) (fun _ _ _ h => h) (by rfl) (fun u hu => ?_) (by assumption) ?_
      rotate_left
      focus ((try dsimp only at hu); go_simp; (try with_reducible rfl); done)
      try simp only [Act.put, List.setIfInBounds_toArray, List.set_cons_zero, List.set_cons_succ]
      refine pre_last (by kernel_rfl) rfl (fun K0 hK => ?_)
      go_simp
      go_at_call 13
      refine (MN.remove0 (H2.out.kept (grownBy_drew (grownBy_refl w7 none))) s s4).mono ?_
      rintro e w8 ⟨⟨bb, rfl⟩, h8⟩
      have hl8 : (remS s (cutAll f t (R.take j) L)).length < 1099511627776 := Nat.lt_of_le_of_lt (remS_length _ _) (Nat.lt_of_le_of_lt (HCL.out j) (by decide))
      have hl9 : (putL s.a f s.k (remS s (cutAll f t (R.take j) L))).length < 1099511627776 := by
        have h1 := putL_length s.a f s.k (remS s (cutAll f t (R.take j) L))
        have h2 := remS_length s (cutAll f t (R.take j) L)
        have h3 := HCL.out j
        exact Nat.lt_of_le_of_lt (Nat.le_trans h1 (Nat.succ_le_succ (Nat.le_trans h2 h3))) (by decide)
      have h8' : RN rb mb ((bx, spO s) :: K') (remS s (cutAll f t (R.take j) L)) w w8 := h8
      have hb8 := h8'.held (p := (bx, spO s)) (by simp)
      have y0 := cell_of_heap hb8 0
      have y1 := cell_of_heap hb8 1
      have y2 := cell_of_heap hb8 2
      have hc8 := rput_walk s.a f s.k s1 (by omega) s6 s4 hl8 h8'
      have HC8 := Lib.hid hc8
      clear h8 h8' hb8 hc8 b0 b1 b2 rr
      try go_simp
      refine hK.out _ _ ?_
      clear hK K0
      try simp only [Act.put, List.setIfInBounds_toArray, List.set_cons_zero, List.set_cons_succ]
      refine aw_done (by kernel_rfl) ?_
      go_wp2_with fail
      refine HC8.out.mono ?_
      rintro e w9 ⟨rfl, h9⟩
      have hb9 := h9.held (p := (bx, spO s)) (by simp)
      have b0 := cell_of_heap hb9 0
      have b1 := cell_of_heap hb9 1
      have b2 := cell_of_heap hb9 2
      have hc9 := rput_walk t s.b s.k (by omega) (by omega) s6 s4 hl9 h9
      have HC9 := Lib.hid hc9
      clear h9 hb9 hc9 y0 y1 y2
      go_wp2_with fail
      refine HC9.out.mono ?_
      rintro e w10 ⟨rfl, h10⟩
      have h11 : RN rb mb K' (cutAll f t (R.take (j + 1)) L) w w10 := by
        rw [HCT.out]
        exact RN.drop h10
      have H11 := Lib.hid h11
      clear h10 h11 b0 b1 b2
      go_wp2_with fail
      go_roundw
      case rel => exact ⟨j + 1, hlt, by simp, H11.out⟩
      case measure => exact meas hlt
    · have hjR : j = R.length := Nat.le_antisymm hj hge
      subst hjR
      have hm2 := (HBK.out 1 _ _ hm).1
      have hlR := HCL.out R.length
      rw [List.take_length] at hm2 hlR
      have r0 := hm2.cell
      have hcl := rput_walk f t (g * 2) hf ht hg2 hg3 (Nat.lt_of_le_of_lt hlR (by decide)) hm2
      have HCl := Lib.hid hcl
      clear hm hm2 hcl
      go_wp2_with fail
      refine HCl.out.mono ?_
      rintro e w5 ⟨rfl, h5⟩
      have H5 := Lib.hid h5
      clear h5
      go_wp2_with fail
      go_ret
      exact ⟨rfl, H5.out⟩
end Go.Proofs.Ytijpienjejfmiaa
