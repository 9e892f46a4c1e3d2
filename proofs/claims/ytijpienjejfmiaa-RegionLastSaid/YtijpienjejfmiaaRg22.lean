/-
  A region and a row of 200 places, side by side in memory; how many places are said; the law RegionLast: the walk. No conditions beyond those that each lemma names.
-/
import Derived.Test.YtijpienjejfmiaaRg18
namespace Go.Proofs.Ytijpienjejfmiaa
open Go Go.RowKit

/-- How many places a list of spans covers, where no two share one. -/
def sumL : List Sp → Int
  | [] => 0
  | s :: l => (s.b - s.a) + sumL l

theorem sumL_append : ∀ (l m : List Sp), sumL (l ++ m) = sumL l + sumL m
  | [], m => by show sumL m = 0 + sumL m; omega
  | s :: l, m => by
    show (s.b - s.a) + sumL (l ++ m) = (s.b - s.a) + sumL l + sumL m
    rw [sumL_append l m]
    omega

theorem sumL_merge (R : List Sp) (s : Sp) : sumL (mergeS R s) = sumL R + (s.b - s.a) := by
  rcases List.eq_nil_or_concat R with rfl | ⟨i, z, rfl⟩
  · rw [mergeS_nil]
    show (s.b - s.a) + 0 = 0 + (s.b - s.a)
    omega
  · rw [List.concat_eq_append, mergeS_snoc]
    split
    · rename_i h
      rw [sumL_append, sumL_append]
      show sumL i + ((s.b - z.a) + 0) = sumL i + ((z.b - z.a) + 0) + (s.b - s.a)
      have := h.1
      omega
    · rw [sumL_append (i ++ [z])]
      show sumL (i ++ [z]) + ((s.b - s.a) + 0) = _
      omega

theorem sumL_runs : ∀ (L R : List Sp), sumL (L.foldl mergeS R) = sumL R + sumL L
  | [], R => by show sumL R = sumL R + 0; omega
  | s :: L, R => by
    show sumL (L.foldl mergeS (mergeS R s)) = sumL R + ((s.b - s.a) + sumL L)
    rw [sumL_runs L, sumL_merge]
    omega

/-- How many places are said. -/
def posN : List Int → Nat
  | [] => 0
  | v :: l => (if 0 < v then 1 else 0) + posN l

theorem posN_take_succ {l : List Int} {j : Nat} (hj : j < l.length) : posN (l.take (j + 1)) = posN (l.take j) + (if 0 < l[j] then 1 else 0) := by
  induction l generalizing j with
  | nil => cases hj
  | cons v l ih =>
    cases j with
    | zero => show (if 0 < v then 1 else 0) + 0 = 0 + _; simp
    | succ j =>
      show (if 0 < v then 1 else 0) + posN (l.take (j + 1)) = (if 0 < v then 1 else 0) + posN (l.take j) + _
      rw [ih (by simpa using hj)]
      simp only [List.getElem_cons_succ]
      omega

theorem posN_le : ∀ l : List Int, posN l ≤ l.length
  | [] => Nat.le_refl _
  | v :: l => by
    show (if 0 < v then 1 else 0) + posN l ≤ l.length + 1
    have := posN_le l
    split <;> omega

theorem sumL_units : ∀ (i : Nat) (l : List Int), (∀ x ∈ l, 0 ≤ x) → sumL (unitsL i l) = (posN l : Int)
  | _, [], _ => rfl
  | i, v :: l, h => by
    have ih := sumL_units (i + 1) l fun x hx => h x (by simp [hx])
    have h0 := h v (by simp)
    show sumL (if v = 0 then unitsL (i + 1) l else _ :: unitsL (i + 1) l) = (((if 0 < v then 1 else 0) + posN l : Nat) : Int)
    by_cases hv : v = 0
    · rw [if_pos hv, if_neg (by omega), ih]
      simp
    · rw [if_neg hv, if_pos (by omega)]
      show ((i : Int) + 1 - (i : Int)) + sumL (unitsL (i + 1) l) = _
      rw [ih]
      omega

theorem sumL_all (l : List Int) (h : ∀ x ∈ l, 0 ≤ x) : sumL (allR l) = (posN l : Int) := by
  unfold allR runsL
  rw [sumL_runs, sumL_units 0 l h]
  show 0 + _ = _
  omega

theorem sumL_take {R : List Sp} {j : Nat} (hj : j < R.length) : sumL (R.take (j + 1)) = sumL (R.take j) + (R[j].b - R[j].a) := by
  rw [List.take_succ_eq_append_getElem hj, sumL_append]
  show _ + ((R[j].b - R[j].a) + 0) = _
  omega

/-- The places' languages are small. -/
def Sml (l : List Int) : Prop := ∀ x ∈ l, 0 ≤ x ∧ x ≤ 3

theorem fill_sml (F g : Int) (hg : 0 ≤ g ∧ g ≤ 3) : ∀ (n : Nat) (l : List Int), Sml l → Sml (fillN F g n l)
  | 0, _, h => h
  | n + 1, l, h => fun x hx => by
    rcases List.mem_or_eq_of_mem_set hx with h1 | h1
    · exact fill_sml F g hg n l h x h1
    · omega

/-- The region, and the row of its places. -/
structure Row2 (L : List Sp) (l : List Int) : Prop where
  ag : Agree 200 L l
  len : l.length = 200
  sml : Sml l

theorem Row2.set {L : List Sp} {l : List Int} (h : Row2 L l) (F T : Nat) (g : Int) (hFT : F ≤ T) (hT : T ≤ 200) (hg : 0 ≤ g ∧ g ≤ 3) : Row2 (setX F T g L) (fillN F g (T - F) l) := by
  have h1 := h.ag.setB F T g (by omega)
  have h2 : setY (F : Int) (T : Int) g l = fillN F g (T - F) l := by
    unfold setY
    rw [if_pos (by simp only [okB, Bool.and_eq_true, decide_eq_true_eq]; omega), Int.toNat_natCast, Int.toNat_natCast, show T - l.length = 0 by rw [h.len]; omega]
    show fillN F g (T - F) (l ++ []) = _
    rw [List.append_nil]
  rw [h2] at h1
  exact ⟨h1, by rw [fillN_length]; exact h.len, fill_sml _ _ hg _ _ h.sml⟩

theorem Row2.nil : Row2 [] (List.replicate 200 0) := by
  have hl : (List.replicate 200 (0 : Int)).length = 200 := List.length_replicate ..
  generalize hr : List.replicate 200 (0 : Int) = r at *
  refine ⟨⟨fun x hx => absurd hx List.not_mem_nil, fun x hx => absurd hx List.not_mem_nil, fun p => ?_, by omega, fun x hx => ?_⟩, hl, fun x hx => ?_⟩
  all_goals rw [← hr] at *
  · show (0 : Int) = _
    unfold getL
    split
    · rfl
    · rw [List.getD_eq_getElem?_getD, List.getElem?_replicate]
      split <;> rfl
  · rw [List.eq_of_mem_replicate hx]; exact Int.le_refl 0
  · rw [List.eq_of_mem_replicate hx]; omega

/-- Each run of All. -/
theorem Row2.run {L : List Sp} {l : List Int} (h : Row2 L l) (ho : Ord L) {x : Sp} (hx : x ∈ runsL L) : 0 ≤ x.a ∧ x.a < x.b ∧ x.b ≤ 200 ∧ 1 ≤ x.k ∧ x.k ≤ 3 := by
  obtain ⟨h1, h2⟩ := runsL_at ho h.ag.dis h.ag.rn
  have hab := h1.2 x hx
  have hc1 := (h2 x.a x.k).1 ⟨x, hx, ⟨Int.le_refl _, hab⟩, rfl⟩
  have hc2 := (h2 (x.b - 1) x.k).1 ⟨x, hx, ⟨by omega, by omega⟩, rfl⟩
  rw [h.ag.at_] at hc1 hc2
  have key : ∀ p, 0 < getL l p → 0 ≤ p ∧ p < 200 ∧ getL l p ≤ 3 := fun p hp => by
    by_cases hn : p < 0
    · rw [getL_neg _ hn] at hp; omega
    · obtain ⟨P, rfl⟩ : ∃ P : Nat, p = (P : Int) := ⟨p.toNat, by omega⟩
      rw [getL_nat] at hp ⊢
      have hl := h.len
      rcases Nat.lt_or_ge P l.length with h3 | h3
      · have := h.sml _ (List.getElem_mem h3)
        rw [List.getD_eq_getElem?_getD, List.getElem?_eq_getElem h3]
        simp only [Option.getD_some]
        omega
      · rw [List.getD_eq_getElem?_getD, List.getElem?_eq_none h3] at hp
        simp at hp
  have k1 := key x.a (by omega)
  have k2 := key (x.b - 1) (by omega)
  omega

theorem Row2.next {L : List Sp} {l : List Int} (h : Row2 L l) (ho : Ord L) {j : Nat} (hj : j + 1 < (runsL L).length) : (runsL L)[j].b ≤ (runsL L)[j + 1].a ∧ ((runsL L)[j].b = (runsL L)[j + 1].a → (runsL L)[j].k ≠ (runsL L)[j + 1].k) := by
  obtain ⟨h1, _⟩ := runsL_at ho h.ag.dis h.ag.rn
  exact List.pairwise_iff_getElem.1 h1.1 j (j + 1) (by omega) hj (by omega)

section
variable {rb mb wb : Nat} {cur : Array Value} {T : TypeId} {L : List Sp} {w wk : World}

/-- A store into the row. -/
theorem RN.poke (h : RN rb mb [(wb, .cells cur T)] L w wk) (hwb : w.heap.size ≤ wb) (hne : rb ≠ wb) (i : Nat) (v : Value) : RN rb mb [(wb, .cells (cur.setIfInBounds i v) T)] L w (wk.setCell ⟨wb, i, none⟩ v) := by
  obtain ⟨B, m1, m2, m3, m4⟩ := h
  have hw := m4 (wb, .cells cur T) (by simp)
  have hr := m4 (rb, rgO mb) (by simp)
  have ho : Only [wb] wk (wk.setCell ⟨wb, i, none⟩ v) := (Only.refl _ _).setCell (.inl (by simp)) _
  refine ⟨B, m1.only ho fun x hx hm => ?_, m2, Only.toGrown m3 ho fun b hb => ?_, fun p hp => ?_⟩
  · rw [List.mem_singleton.1 hm] at hx
    exact hw.2 hx
  · rw [List.mem_singleton.1 hb]
    exact hwb
  · simp only [List.mem_cons, List.not_mem_nil, or_false] at hp
    rcases hp with rfl | rfl
    · exact ⟨ho.heap hr.1 fun hm => hne (List.mem_singleton.1 hm), hr.2⟩
    · exact ⟨heap_setCell hw.1 i v, hw.2⟩
end
end Go.Proofs.Ytijpienjejfmiaa

namespace Go.Proofs.Ytijpienjejfmiaa
open Go Go.RowKit

abbrev arrO (l : List Int) : Obj := .cells (iV l).toArray 51

theorem zero_arr : Try.zeroCells51 = (iV (List.replicate 200 0)).toArray := by kernel_rfl

theorem arr_set (l : List Int) (i : Nat) (v : Int) : (iV l).toArray.setIfInBounds i (.int .i64 v) = (iV (l.set i v)).toArray := by
  show _ = (List.map _ (l.set i v)).toArray
  rw [List.map_set, List.setIfInBounds_toArray]

theorem arr_get {l : List Int} {j : Nat} (h : j < l.length) : (iV l).toArray[j]? = some (.int .i64 l[j]) := by
  rw [List.getElem?_toArray, List.getElem?_map, List.getElem?_eq_getElem h]
  rfl

theorem RN.set {rb mb : Nat} {K : List (Nat × Obj)} {L : List Sp} {w wk : World} (h : RN rb mb K L w wk) {b : Int} (hr : Rn b L) (hb : b ≤ 100000) (hl : (L.length : Int) ≤ b) (f t g : Int) (h0 : 0 ≤ f ∧ f ≤ t ∧ t ≤ 200 ∧ 0 ≤ g ∧ g ≤ 3) :
    Calls Try.prog 20 #[.pointer (some ⟨rb, 0, none⟩), .int .i64 f, .int .i64 t, .int .i64 g] wk fun e w' => e = .returned (.bool true) ∧ RN rb mb K (setX f t g L) w w' := by
  have ho : okB f t g = true := by simp only [okB, Bool.and_eq_true, decide_eq_true_eq]; omega
  by_cases hft : f < t
  · rw [show setX f t g L = setL f t g L from if_pos ⟨ho, hft⟩]
    exact rset_walk f t g (by omega) hft (by omega) (by omega) (hr.ok (by omega)) (by omega) h
  · have e : f = t := by omega
    subst e
    rw [show setX f f g L = L from if_neg (fun h => hft h.2)]
    refine (rset_eq rb f g (by omega) (by omega) (by omega) (by omega) wk).mono ?_
    rintro e w' ⟨rfl, rfl⟩
    exact ⟨rfl, h⟩

def prevB (R : List Sp) : Nat → Int
  | 0 => -1
  | i + 1 => (R.getD i ⟨0, 0, 0⟩).b
def prevK (R : List Sp) : Nat → Int
  | 0 => 0
  | i + 1 => (R.getD i ⟨0, 0, 0⟩).k
theorem prev_succ {R : List Sp} {i : Nat} (h : i < R.length) : prevB R (i + 1) = R[i].b ∧ prevK R (i + 1) = R[i].k := by
  show (R.getD i ⟨0, 0, 0⟩).b = _ ∧ (R.getD i ⟨0, 0, 0⟩).k = _
  rw [List.getD_eq_getElem?_getD, List.getElem?_eq_getElem h]
  exact ⟨rfl, rfl⟩
structure LastOne (R : List Sp) (w6 : World) (la ln iv : Value) (wr : World) : Prop where
  out : ∃ i : Nat, i ≤ R.length ∧ iv = .int .i64 (i : Int) ∧ la = .int .i64 (prevB R i) ∧ ln = .int .i64 (prevK R i) ∧ w6.grownBy wr none

theorem sumL_bound : ∀ R : List Sp, (∀ x ∈ R, 0 ≤ x.a ∧ x.a < x.b ∧ x.b ≤ 200 ∧ 1 ≤ x.k ∧ x.k ≤ 3) → 0 ≤ sumL R ∧ sumL R ≤ 200 * (R.length : Int)
  | [], _ => by simp [sumL]
  | s :: R, h => by
    have h1 := h s (by simp)
    have h2 := sumL_bound R fun x hx => h x (by simp [hx])
    show 0 ≤ (s.b - s.a) + sumL R ∧ (s.b - s.a) + sumL R ≤ 200 * ((R.length + 1 : Nat) : Int)
    omega
structure LastSum (rb mb wb : Nat) (L : List Sp) (l : List Int) (w : World) (sm iv : Value) (wr : World) : Prop where
  out : ∃ j : Nat, j ≤ 200 ∧ iv = .int .i64 (j : Int) ∧ sm = .int .i64 (posN (l.take j) : Int) ∧ RN rb mb [(wb, arrO l)] L w wr
structure LastSub (R : List Sp) (S1 : Nat) (w10 : World) (sm iv : Value) (wr : World) : Prop where
  out : ∃ i : Nat, i ≤ R.length ∧ iv = .int .i64 (i : Int) ∧ sm = .int .i64 ((S1 : Int) - sumL (R.take i)) ∧ w10.grownBy wr none

/-- The law's loops. -/
structure LastRel (rb mb wb n : Nat) (w : World) (iv : Value) (wr : World) : Prop where
  out : ∃ j : Nat, j ≤ n ∧ iv = .int .i64 (j : Int) ∧ ∃ L l, RN rb mb [(wb, arrO l)] L w wr ∧ Row2 L l
structure LastFill (rb mb wb F D : Nat) (g : Int) (L : List Sp) (l : List Int) (w : World) (iv : Value) (wr : World) : Prop where
  out : ∃ k : Nat, k ≤ D ∧ iv = .int .i64 ((F + k : Nat) : Int) ∧ RN rb mb [(wb, arrO (fillN F g k l))] L w wr

set_option maxRecDepth 100000 in
set_option maxHeartbeats 4000000 in
theorem last_walk (xs : List Int) (A : Option Addr) (n c : Nat) (w : World) (hn : n ≤ 9223372036854775807) (hA : Sl w 1 A n (iV xs)) :
    Calls Try.prog 8 #[.slice A n c] w (TrueRes w) := by
  have HA := Lib.hid hA
  have hxl : xs.length = n := by have := hA.1; simpa using this
  have HXL := Lib.hid hxl
  clear hA hxl
  go_enter Try.func8, Try.ntmps8
  go_wp2_with fail
  refine (rnew_walk w).mono ?_
  rintro e w1 ⟨rb, mb, rfl, h1⟩
  have H1 := Lib.hid h1
  clear h1
  go_upto_region 3 with (fail)
  have hz : RN rb mb [(w1.heap.size, arrO (List.replicate 200 0))] [] w (w1.alloc (Obj.cells Try.zeroCells51 51)) := by
    have h5 := MN.alloc H1.out (Obj.cells Try.zeroCells51 51)
    have h6 := RN.swap h5
    unfold arrO
    rw [← zero_arr]
    exact h6
  have hne : rb ≠ w1.heap.size := fun e => by
    have h5 := heap_lt (MN.held H1.out (p := (rb, rgO mb)) (by simp))
    simp only at h5
    omega
  have hge : w.heap.size ≤ w1.heap.size := (MN.grown H1.out).size
  have HZ := Lib.hid hz
  generalize hw2 : w1.alloc (Obj.cells Try.zeroCells51 51) = w2 at *
  generalize hwb : w1.heap.size = wb at HZ hne hge ⊢
  clear hz hw2 hwb H1
  by_cases hbig : 60 < n
  · have b1 : (60 : Int) < (n : Int) := by omega
    have HG2 := Lib.hid (MN.grown HZ.out)
    go_wp2_with fail
    refine (awake22_walk _).mono ?_
    rintro e w8 ⟨rfl, hg8⟩
    have HG8 := Lib.hid (grownBy_trans HG2.out hg8 nofun)
    clear hg8
    go_wp2_with fail
    go_ret
    exact ⟨rfl, HG8.out⟩
  · have b1 : ¬ (60 : Int) < (n : Int) := by omega
    go_wp2_with fail
    go_loopw [5] (fun iv wr => LastRel rb mb wb n w iv wr) (fun iv _ => n - (RowKit.intOf iv).toNat)
    case atStart => exact ⟨0, Nat.zero_le _, rfl, _, _, HZ.out, Row2.nil⟩
    case round =>
      obtain ⟨j, hj, rfl, L, l, hp, hrw⟩ := hrel.out
      rcases Nat.lt_or_ge j n with hlt | hge2
      · have hltI : (j : Int) < (n : Int) := Int.ofNat_lt.2 hlt
        obtain ⟨p1, o1, rfl, hc1⟩ := (HA.out.kept (MN.grown hp) nofun).2.2 (by omega)
        have hjx : j < xs.length := by rw [HXL.out]; exact hlt
        have x0 := hc1 j (.int .i64 xs[j]) (by rw [List.getElem?_map, List.getElem?_eq_getElem hjx]; rfl)
        have hpl := fun w => place_any xs[j] 1073741824 w (by decide) (by decide)
        have hk : 0 ≤ xs[j] % 1073741824 ∧ xs[j] % 1073741824 < 1073741824 := by omega
        generalize xs[j] = x at *
        generalize x % 1073741824 = k at *
        have HP := Lib.hid hp
        have HR := Lib.hid hrw
        have hj100 : j < 60 := by omega
        clear hc1 hjx hp hrw
        go_wp2_with fail
        refine (hpl _).mono ?_
        rintro e u1 ⟨rfl, eu⟩
        subst eu
        obtain ⟨F, e1⟩ : ∃ F : Nat, k.tmod 150 = (F : Int) := ⟨(k % 150).toNat, by rw [tmod_of hk.1]; omega⟩
        obtain ⟨k2, e2⟩ : ∃ k2, k.tdiv 150 = k2 := ⟨_, rfl⟩
        have f2 : 0 ≤ k2 ∧ k2 < 1073741824 := by rw [tdiv_of hk.1] at e2; omega
        obtain ⟨D, e3⟩ : ∃ D : Nat, k2.tmod 50 = (D : Int) := ⟨(k2 % 50).toNat, by rw [tmod_of f2.1]; omega⟩
        obtain ⟨k4, e4⟩ : ∃ k4, k.tdiv 7500 = k4 := ⟨_, rfl⟩
        have f4 : 0 ≤ k4 ∧ k4 < 1073741824 := by rw [tdiv_of hk.1] at e4; omega
        obtain ⟨g, e5⟩ : ∃ g, k4.tmod 4 = g := ⟨_, rfl⟩
        have f1 : F < 150 := by rw [tmod_of hk.1] at e1; omega
        have f3 : D < 50 := by rw [tmod_of f2.1] at e3; omega
        have f5 : 0 ≤ g ∧ g < 4 := by rw [tmod_of f4.1] at e5; omega
        obtain ⟨T, e6⟩ : ∃ T : Nat, F + D = T := ⟨_, rfl⟩
        have hT : T ≤ 200 := by omega
        have g1 : IntKind.i64.wrap (F : Int) = (F : Int) := by rw [IntKind.wrap_i64]; omega
        have g2 : IntKind.i64.wrap k2 = k2 := by rw [IntKind.wrap_i64]; omega
        have g3 : IntKind.i64.wrap (D : Int) = (D : Int) := by rw [IntKind.wrap_i64]; omega
        have g4 : IntKind.i64.wrap k4 = k4 := by rw [IntKind.wrap_i64]; omega
        have g5 : IntKind.i64.wrap g = g := by rw [IntKind.wrap_i64]; omega
        have g6 : IntKind.i64.wrap ((F : Int) + (D : Int)) = (T : Int) := by rw [IntKind.wrap_i64]; omega
        have hS := HP.out.set HR.out.ag.rn (by omega) (HR.out.ag.runs_length (by omega) (MN.ord HP.out).1) (F : Int) (T : Int) g (by omega)
        have HS := Lib.hid hS
        have HR2 := Lib.hid (HR.out.set F T g (by omega) (by omega) (by omega))
        have HFD := Lib.hid e6
        have HLEN := Lib.hid HR.out.len
        clear hS hk f2 f4 f5 f3 f1 x0 hpl e6 HXL HP HR
        go_wp2_with fail
        refine HS.out.mono ?_
        rintro e w3 ⟨rfl, hp3⟩
        have HP3 := Lib.hid hp3
        clear hp3 e1 e2 e3 e4 e5
        go_wp2_with fail
        go_loopw [10] (fun iv wr => LastFill rb mb wb F (T - F) g (setX F T g L) l w iv wr) (fun iv _ => T - (RowKit.intOf iv).toNat)
        case atStart => exact ⟨0, Nat.zero_le _, rfl, HP3.out⟩
        case round =>
          obtain ⟨kk, hkk, rfl, hq⟩ := hrel.out
          obtain ⟨I, hI⟩ : ∃ I, F + kk = I := ⟨_, rfl⟩
          have hFI : (F : Int) + (kk : Int) = (I : Int) := by omega
          rw [hI]
          have HI := Lib.hid hI
          have HQ := Lib.hid hq
          have hIT : I ≤ T := by have := HFD.out; omega
          have hkd : kk = I - F := by omega
          have HKD := Lib.hid hkd
          clear hq hI hkd hFI
          rcases Nat.lt_or_ge I T with hlt2 | hge3
          · have c1 : (I : Int) < (T : Int) := Int.ofNat_lt.2 hlt2
            have c2 : (I : Int) < 200 := by omega
            have hobj : wr.heap[wb]? = some (arrO (fillN F g kk l)) := MN.held HQ.out (p := (wb, arrO (fillN F g kk l))) (by simp)
            have hIl : I < (fillN F g kk l).length := by rw [fillN_length, HLEN.out]; omega
            have r0 := (cell_of_heap hobj I).trans (arr_get hIl)
            have fz := frozen_of_heap hobj I
            have hnew := HQ.out.poke hge hne I (.int .i64 g)
            have hfs : (iV (fillN F g kk l)).toArray.setIfInBounds I (.int .i64 g) = (iV (fillN F g (kk + 1) l)).toArray := by
              rw [arr_set]
              show _ = (iV ((fillN F g kk l).set ((F : Int).toNat + kk) g)).toArray
              rw [Int.toNat_natCast, HI.out]
            rw [hfs] at hnew
            have HNEW := Lib.hid hnew
            generalize (fillN F g kk l)[I] = u0 at r0
            clear hobj hIl hnew hfs
            go_wp2_with fail
            go_roundw
            case rel => exact ⟨kk + 1, by have := HKD.out; have := HI.out; omega, by rw [← Nat.add_assoc, HI.out]; first | rfl | simp, HNEW.out⟩
            case measure => exact meas hlt2
          · have c1 : ¬ (I : Int) < (T : Int) := by omega
            have hke : kk = T - F := by have := HKD.out; have := HI.out; omega
            have HKE := Lib.hid hke
            clear hke
            go_wp2_with fail
            go_roundw
            case rel => exact ⟨j + 1, hlt, by simp, _, _, (by have h5 := HQ.out; rw [HKE.out] at h5; exact h5), HR2.out⟩
            case measure => exact meas hlt
      · have b2 : ¬ (j : Int) < (n : Int) := by omega
        have HP := Lib.hid hp
        have HR := Lib.hid hrw
        clear hp hrw
        obtain ⟨R, hR⟩ : ∃ R, runsL L = R := ⟨_, rfl⟩
        have hR1 : ∀ x ∈ R, 0 ≤ x.a ∧ x.a < x.b ∧ x.b ≤ 200 ∧ 1 ≤ x.k ∧ x.k ≤ 3 := by
          subst hR
          exact fun x hx => HR.out.run (MN.ord HP.out).1 (x := x) hx
        have hR2 : ∀ j (hj : j + 1 < R.length), R[j].b ≤ R[j + 1].a ∧ (R[j].b = R[j + 1].a → R[j].k ≠ R[j + 1].k) := by
          subst hR
          exact fun j hj => HR.out.next (MN.ord HP.out).1 (j := j) hj
        have hR3 : sumL R = (posN l : Int) := by
          subst hR
          rw [HR.out.ag.all (MN.ord HP.out).1]
          exact sumL_all l HR.out.ag.nn
        have hLl : L.length ≤ 274877906944 := by have h6 := HR.out.ag.runs_length (by omega) (MN.ord HP.out).1; omega
        have hRl : R.length ≤ 200 := by
          have h5 := runsL_length L L.length (Nat.le_refl _)
          rw [List.take_length, hR] at h5
          have h6 := HR.out.ag.runs_length (by omega) (MN.ord HP.out).1
          omega
        have hW : ∀ wx : World, RN rb mb [(wb, arrO l)] L w wx → Calls Try.prog 25 #[.pointer (some ⟨rb, 0, none⟩)] wx fun e w' => ∃ A c, e = .returned (.slice A R.length c) ∧ Spans w' wx.heap.size (.slice A R.length c) R ∧ RN rb mb [(wb, arrO l)] L w w' := by
          subst hR
          exact fun wx h => rall_walk (HR.out.ag.rn.ok (by omega)) hLl h
        have hC1 := hW _ HP.out
        have HRW := Lib.hid hW
        clear hR hW hLl
        have HC1 := Lib.hid hC1
        have HR1 := Lib.hid hR1
        have HR2 := Lib.hid hR2
        have HR3 := Lib.hid hR3
        clear hC1 hR1 hR2 hR3 HZ HA HXL hge b2
        go_wp2_with fail
        refine HC1.out.mono ?_
        rintro e w6 ⟨A1, c1, rfl, hs6, hp6⟩
        have HS6 := Lib.hid (Sl.of_own hs6 (rowS_one _))
        have HP6 := Lib.hid hp6
        clear hs6 hp6 HP HC1
        go_wp2_with fail
        go_loopw [11, 12, 73] (fun la ln iv wr => LastOne R w6 la ln iv wr) (fun _ _ iv _ => R.length - (RowKit.intOf iv).toNat)
        case atStart => exact ⟨0, Nat.zero_le _, rfl, rfl, rfl, grownBy_refl _ _⟩
        case round =>
          obtain ⟨i, hi, rfl, rfl, rfl, hgr⟩ := hrel.out
          rcases Nat.lt_or_ge i R.length with hlt | hge
          · have hltI : (i : Int) < (R.length : Int) := Int.ofNat_lt.2 hlt
            obtain ⟨p1, o1, rfl, hc1⟩ := (HS6.out.kept hgr nofun).2.2 (by omega)
            obtain ⟨r0, r1, r2⟩ := rowS_at R i hlt
            have x0 := hc1 _ _ r0
            have x1 := hc1 _ _ r1
            have x2 := hc1 _ _ r2
            rw [← Nat.add_assoc] at x1 x2
            have hb := HR1.out _ (List.getElem_mem hlt)
            have hpr : prevB R i ≤ R[i].a ∧ (prevB R i = R[i].a → prevK R i ≠ R[i].k) := by
              cases i with
              | zero =>
                show (-1 : Int) ≤ _ ∧ ((-1 : Int) = _ → _)
                exact ⟨by omega, fun h => by omega⟩
              | succ i =>
                have h5 := HR2.out i hlt
                have h6 := prev_succ (by omega : i < R.length)
                rw [h6.1, h6.2]
                exact h5
            obtain ⟨hnb, hnk⟩ := prev_succ hlt
            have HNB := Lib.hid (And.intro hnb hnk)
            obtain ⟨PB, hPB⟩ : ∃ PB, prevB R i = PB := ⟨_, rfl⟩
            obtain ⟨PK, hPK⟩ : ∃ PK, prevK R i = PK := ⟨_, rfl⟩
            rw [hPB, hPK] at hpr ⊢
            clear hPB hPK hnb hnk hc1 r0 r1 r2
            generalize R[i] = s at *
            obtain ⟨k1, k2, k3, k4, k5⟩ := hb
            have d1 : ¬ s.b ≤ s.a := by omega
            have d2 : ¬ (200 : Int) < s.b := by omega
            have d3 : ¬ s.k < 1 := by omega
            have d4 : ¬ (3 : Int) < s.k := by omega
            have d5 : ¬ s.a < PB := by omega
            have hG := Lib.hid hgr
            have hwi : IntKind.i64.wrap ((i : Int) + 1) = (i : Int) + 1 := by rw [IntKind.wrap_i64]; omega
            have hbx : ∀ wx : World, wx.heap = (wr.alloc (spO s)).heap → wx.heap[wr.heap.size]? = some (spO s) := fun wx h => by rw [h]; exact heap_new wr (spO s)
            have HBX := Lib.hid hbx
            clear hbx hgr k1 k2 k3 k4 k5
            go_upto_region 20 with (fail)
            have hA7 := heap_new wr (spO s)
            have hg7 := grownBy_alloc hG.out (spO s)
            generalize hw7 : wr.alloc (spO s) = w7 at *
            generalize hob : wr.heap.size = ob at hA7 ⊢
            have a0 := cell_of_heap hA7 0
            have a1 := cell_of_heap hA7 1
            have a2 := cell_of_heap hA7 2
            have HG7 := Lib.hid hg7
            clear hA7 hg7 hw7 hob x0 x1 x2 HBX hG
            by_cases hsa : s.a = PB
            · have d6 : (s.a == PB) = true := by simp [hsa]
              have d7 : (s.k == PK) = false := by
                rw [beq_eq_false_iff_ne]
                exact fun h => hpr.2 hsa.symm h.symm
              clear hpr hsa
              go_upto_region 22 with (fail)
              go_quiet (fail)
              have HGQ := Lib.hid (grownBy_drewN HG7.out nq)
              go_wp2_with fail
              go_roundw
              case rel => exact ⟨i + 1, hlt, by simp, by rw [HNB.out.1], by rw [HNB.out.2], HGQ.out⟩
              case measure => exact meas hlt
            · have d6 : (s.a == PB) = false := by simp [hsa]
              clear hpr hsa
              go_upto_region 22 with (fail)
              go_quiet (fail)
              have HGQ := Lib.hid (grownBy_drewN HG7.out nq)
              go_wp2_with fail
              go_roundw
              case rel => exact ⟨i + 1, hlt, by simp, by rw [HNB.out.1], by rw [HNB.out.2], HGQ.out⟩
              case measure => exact meas hlt
          · have b2 : ¬ (i : Int) < (R.length : Int) := by omega
            have HP7 := Lib.hid (MN.kept HP6.out hgr)
            clear hgr HS6 HP6 HR2
            have hat : ∀ i : Nat, i < l.length → ∀ wx : World, RN rb mb [(wb, arrO l)] L w wx → Calls Try.prog 27 #[.pointer (some ⟨rb, 0, none⟩), .int .i64 (i : Int)] wx fun e w' => e = .returned (.int .i64 (l.getD i 0)) ∧ RN rb mb [(wb, arrO l)] L w w' := fun i hil wx h => by
              have h5 := rat_walk (i : Int) (by have := HR.out.len; omega) (fun x hx => by have := HR.out.ag.rn x hx; omega) h
              rw [if_neg (by omega), HR.out.ag.at_, getL_nat] at h5
              exact h5
            have HAT := Lib.hid hat
            have HLEN := Lib.hid HR.out.len
            clear hat
            go_wp2_with fail
            go_loopw [15, 16] (fun sm iv wr => LastSum rb mb wb L l w sm iv wr) (fun _ iv _ => 200 - (RowKit.intOf iv).toNat)
            case atStart => exact ⟨0, Nat.zero_le _, rfl, rfl, HP7.out⟩
            case round =>
              obtain ⟨jj, hjj, rfl, rfl, hp8⟩ := hrel.out
              rcases Nat.lt_or_ge jj 200 with hlt2 | hge2
              · have c1 : (jj : Int) < 200 := by omega
                have hjl : jj < l.length := by rw [HLEN.out]; exact hlt2
                have hps := posN_take_succ hjl
                have hpl := posN_le (l.take jj)
                have hpl2 : posN (l.take jj) ≤ 200 := by
                  have := List.length_take_le jj l
                  omega
                have hgd : l.getD jj 0 = l[jj] := by
                  rw [List.getD_eq_getElem?_getD, List.getElem?_eq_getElem hjl]
                  rfl
                have hob := MN.held hp8 (p := (wb, arrO l)) (by simp)
                have hO : wr.drew.heap[wb]? = some (arrO l) := hob
                have hget : (iV l).toArray[jj]? = some (.int .i64 l[jj]) := arr_get hjl
                have hA := HAT.out jj hjl wr.drew (MN.kept hp8 (grownBy_drew (grownBy_refl wr none)))
                rw [hgd] at hA
                generalize l[jj] = u at *
                have hgen : ∀ wx : World, wx.heap[wb]? = some (arrO l) → wx.cell? ⟨wb, jj, none⟩ = some (.int .i64 u) := fun wx h => (cell_of_heap h jj).trans hget
                obtain ⟨S0, hS0⟩ : ∃ S0 : Nat, posN (l.take jj) = S0 := ⟨_, rfl⟩
                rw [hS0] at hps hpl2 ⊢
                have HPS := Lib.hid hps
                have HA := Lib.hid hA
                have HGEN := Lib.hid hgen
                have hne2 : (u != u) = false := by simp
                have hwj : IntKind.i64.wrap ((jj : Int) + 1) = (jj : Int) + 1 := by rw [IntKind.wrap_i64]; omega
                clear hps hpl hgd hob hget hA hgen hS0 hjl hp8
                go_upto_region 28 with (fail)
                refine region_hw (fun u => u.heap[wb]? = some (arrO l)) (by kernel_rfl) hO (fun hHeld => ?_)
                clear hO
                go_simp
                refine hw_take 0 (v := ?_) rfl (by kernel_rfl) (by kernel_rfl) (by kernel_rfl) (fun _ _ _ h => h) (by rfl) (fun u hu => ?_) (by assumption) ?_
                rotate_left
                focus ((try dsimp only at hu); have a0 := HGEN.out _ hu; go_simp; (try with_reducible rfl); done)
                try simp only [Act.put, List.setIfInBounds_toArray, List.set_cons_zero, List.set_cons_succ]
                refine hw_take 1 (v := ?_) rfl (by kernel_rfl) (by kernel_rfl) (by kernel_rfl) (fun _ _ _ h => h) (by rfl) (fun u hu => ?_) (by assumption) ?_
                rotate_left
                focus ((try dsimp only at hu); have a0 := HGEN.out _ hu; go_simp; (try with_reducible rfl); done)
                try simp only [Act.put, List.setIfInBounds_toArray, List.set_cons_zero, List.set_cons_succ]
                refine hw_take 3 (v := ?_) rfl (by kernel_rfl) (by kernel_rfl) (by kernel_rfl) (fun _ _ _ h => h) (by rfl) (fun u hu => ?_) (by assumption) ?_
                rotate_left
                focus ((try dsimp only at hu); have a0 := HGEN.out _ hu; go_simp; (try with_reducible rfl); done)
                try simp only [Act.put, List.setIfInBounds_toArray, List.set_cons_zero, List.set_cons_succ]
                refine hw_take 4 (v := ?_) rfl (by kernel_rfl) (by kernel_rfl) (by kernel_rfl) (fun _ _ _ h => h) (by rfl) (fun u hu => ?_) (by assumption) ?_
                rotate_left
                focus ((try dsimp only at hu); have a0 := HGEN.out _ hu; go_simp; (try with_reducible rfl); done)
                try simp only [Act.put, List.setIfInBounds_toArray, List.set_cons_zero, List.set_cons_succ]
                refine hw_take 5 (v := ?_) rfl (by kernel_rfl) (by kernel_rfl) (by kernel_rfl) (fun _ _ _ h => h) (by rfl) (fun u hu => ?_) (by assumption) ?_
                rotate_left
                focus ((try dsimp only at hu); have a0 := HGEN.out _ hu; go_simp; (try with_reducible rfl); done)
                try simp only [Act.put, List.setIfInBounds_toArray, List.set_cons_zero, List.set_cons_succ]
                refine hw_one 2 (by kernel_rfl) rfl (fun K hK => ?_)
                go_simp
                go_at_call 27
                refine HA.out.mono ?_
                rintro e w9 ⟨rfl, hp9⟩
                have hO9 := MN.held hp9 (p := (wb, arrO l)) (by simp)
                have HP9 := Lib.hid hp9
                clear hp9
                try go_simp
                refine hK.out _ _ (by exact hO9) (fun hHeld2 => ?_)
                clear hK K
                try simp only [Act.put, List.setIfInBounds_toArray, List.set_cons_zero, List.set_cons_succ]
                refine hw_take 6 (v := ?_) rfl (by kernel_rfl) (by kernel_rfl) (by kernel_rfl) (fun _ _ _ h => h) (by rfl) (fun u hu => ?_) (by assumption) ?_
                rotate_left
                focus ((try dsimp only at hu); have a0 := HGEN.out _ hu; go_simp; (try with_reducible rfl); done)
                try simp only [Act.put, List.setIfInBounds_toArray, List.set_cons_zero, List.set_cons_succ]
                refine hw_done (by kernel_rfl) ?_
                have a0 := HGEN.out _ hO9
                clear hO9
                by_cases hu0 : 0 < u
                · go_wp2_with fail
                  go_roundw
                  case rel => exact ⟨jj + 1, hlt2, by simp, by rw [HPS.out, if_pos hu0]; simp, HP9.out⟩
                  case measure => exact meas hlt2
                · go_wp2_with fail
                  go_roundw
                  case rel => exact ⟨jj + 1, hlt2, by simp, by rw [HPS.out, if_neg hu0, Nat.add_zero], HP9.out⟩
                  case measure => exact meas hlt2
              · have c1 : ¬ (jj : Int) < 200 := by omega
                have hj200 : l.take jj = l := List.take_of_length_le (by rw [HLEN.out]; exact hge2)
                rw [hj200]
                have HC8 := Lib.hid (HRW.out wr hp8)
                obtain ⟨S1, hS1⟩ : ∃ S1 : Nat, posN l = S1 := ⟨_, rfl⟩
                have hS2 := HR3.out
                rw [hS1] at hS2 ⊢
                have HSR := Lib.hid hS2
                clear hp8 hj200 hS1 hS2 HRW HAT HR3 HR HLEN HP7
                go_wp2_with fail
                refine HC8.out.mono ?_
                rintro e w10 ⟨A2, c2, rfl, hs10, hp10⟩
                have HS10 := Lib.hid (Sl.of_own hs10 (rowS_one _))
                have HG10 := Lib.hid (MN.grown hp10)
                clear hs10 hp10 HC8
                go_wp2_with fail
                go_loopw [15, 140] (fun sm iv wr => LastSub R S1 w10 sm iv wr) (fun _ iv _ => R.length - (RowKit.intOf iv).toNat)
                case atStart => exact ⟨0, Nat.zero_le _, rfl, by simp [sumL], grownBy_refl _ _⟩
                case round =>
                  obtain ⟨i2, hi2, rfl, rfl, hgr⟩ := hrel.out
                  have hsb := sumL_bound (R.take i2) fun x hx => HR1.out x (List.mem_of_mem_take hx)
                  have hsl : (R.take i2).length ≤ 200 := by have := List.length_take_le' i2 R; omega
                  have hS1 : S1 ≤ 40000 := by
                    have h5 := (sumL_bound R HR1.out).2
                    have h6 := HSR.out
                    omega
                  rcases Nat.lt_or_ge i2 R.length with hlt3 | hge3
                  · have c3 : (i2 : Int) < (R.length : Int) := Int.ofNat_lt.2 hlt3
                    obtain ⟨p1, o1, rfl, hc1⟩ := (HS10.out.kept hgr nofun).2.2 (by omega)
                    obtain ⟨r0, r1, r2⟩ := rowS_at R i2 hlt3
                    have x0 := hc1 _ _ r0
                    have x1 := hc1 _ _ r1
                    have x2 := hc1 _ _ r2
                    rw [← Nat.add_assoc] at x1 x2
                    have hb := HR1.out _ (List.getElem_mem hlt3)
                    have hst := sumL_take hlt3
                    generalize R[i2] = s at *
                    obtain ⟨X, hX⟩ : ∃ X, sumL (R.take i2) = X := ⟨_, rfl⟩
                    rw [hX] at hst hsb ⊢
                    obtain ⟨Y, hY⟩ : ∃ Y, (S1 : Int) - X = Y := ⟨_, rfl⟩
                    have HST := Lib.hid (And.intro hst hY)
                    rw [hY]
                    have w1' : IntKind.i64.wrap (s.b - s.a) = s.b - s.a := by rw [IntKind.wrap_i64]; omega
                    have w2' : IntKind.i64.wrap (Y - (s.b - s.a)) = Y - (s.b - s.a) := by rw [IntKind.wrap_i64]; omega
                    have hwi : IntKind.i64.wrap ((i2 : Int) + 1) = (i2 : Int) + 1 := by rw [IntKind.wrap_i64]; omega
                    have hG := Lib.hid hgr
                    clear hc1 r0 r1 r2 hb hst hX hsb hY hgr hsl hS1
                    go_upto_region 35 with (fail)
                    have hA7 := heap_new wr (spO s)
                    have hg7 := grownBy_alloc hG.out (spO s)
                    generalize hw7 : wr.alloc (spO s) = w7 at *
                    generalize hob : wr.heap.size = ob at hA7 ⊢
                    have a0 := cell_of_heap hA7 0
                    have a1 := cell_of_heap hA7 1
                    have HG7 := Lib.hid hg7
                    clear hA7 hg7 hw7 hob x0 x1 x2 hG
                    go_wp2_with fail
                    go_roundw
                    case rel => exact ⟨i2 + 1, hlt3, by simp, by rw [HST.out.1, ← HST.out.2, Int.sub_sub], HG7.out⟩
                    case measure => exact meas hlt3
                  · have c3 : ¬ (i2 : Int) < (R.length : Int) := by omega
                    have hall : R.take i2 = R := List.take_of_length_le hge3
                    rw [hall]
                    have hz : (S1 : Int) - sumL R = 0 := by rw [HSR.out]; omega
                    rw [hz]
                    have HG := Lib.hid (grownBy_trans HG10.out hgr nofun)
                    clear hgr hall hz hsb hsl hS1
                    go_wp2_with fail
                    refine (awake22_walk _).mono ?_
                    rintro e w8 ⟨rfl, hg8⟩
                    have HG8 := Lib.hid (grownBy_trans HG.out hg8 nofun)
                    clear hg8
                    go_wp2_with fail
                    go_ret
                    exact ⟨rfl, HG8.out⟩
end Go.Proofs.Ytijpienjejfmiaa
