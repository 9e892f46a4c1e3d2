/-
  Package dawg: state: the walk. Conditions: few words, few states.
-/
import Derived.Test.YtdcdhcgfhapbnaaDoorDawgN
import Derived.Test.YtdcdhcgfhapbnaaDoorDawgQ
namespace Go.Proofs.YtdcdhcgfhapbnaaDoor
open Go Go.RowKit Go.Maps

def strCells (ss : List Wd) : List Value := ss.map fun s => .string ⟨s.toArray⟩

/-- Words that lie in a slice, off the blocks of X. -/
def WordsAt (w : World) (X : Nat → Prop) (A : Option Addr) (n c : Nat) (ss : List Wd) : Prop :=
  ss.length = n ∧ n ≤ c ∧ n ≤ 2147483648 ∧ Sl w 1 A n (strCells ss) ∧ ∀ k, X k → Off A n k

theorem WordsAt.cut {w : World} {X : Nat → Prop} {A : Option Addr} {n c k : Nat} {ss : List Wd} (h : WordsAt w X A n c ss) (hk : k ≤ n) {A' : Option Addr} {c' : Nat} (hc : n - k ≤ c') (hA : k < n → A' = A.map (fun x => { block := x.block, off := x.off + k })) : WordsAt w X A' (n - k) c' (ss.drop k) := by
  obtain ⟨h1, h2, h3, h4, h5⟩ := h
  have hs : strCells (ss.drop k) = (strCells ss).drop k := by rw [strCells, strCells, List.map_drop]
  refine ⟨by rw [List.length_drop, h1], hc, by omega, ⟨by rw [hs, List.length_drop, h4.1, Nat.mul_one, Nat.mul_one], fun x hx => h4.2.1 x (by rw [hs] at hx; exact List.mem_of_mem_drop hx), fun h0 => ?_⟩, fun l hl h0 a ha => ?_⟩
  · obtain ⟨b, o, rfl, hc'⟩ := h4.2.2 (by omega)
    refine ⟨b, o + k, hA (by omega), fun j u hu => ?_⟩
    rw [hs, List.getElem?_drop] at hu
    rw [Nat.add_assoc]
    exact hc' _ u hu
  · rw [hA (by omega)] at ha
    cases A with
    | none => simp at ha
    | some a' =>
      simp at ha; subst ha
      exact h5 l hl (by omega) a' rfl

theorem WordsAt.take {w : World} {X : Nat → Prop} {A : Option Addr} {n c k : Nat} {ss : List Wd} (h : WordsAt w X A n c ss) (hk : k ≤ n) : WordsAt w X A k c (ss.take k) := by
  obtain ⟨h1, h2, h3, h4, h5⟩ := h
  refine ⟨by rw [List.length_take]; omega, by omega, by omega, ?_, fun l hl => (h5 l hl).mono hk⟩
  have := h4.take hk
  rw [Nat.mul_one] at this
  rw [strCells, List.map_take]
  exact this

theorem WordsAt.get {w : World} {X : Nat → Prop} {A : Option Addr} {n c k : Nat} {ss : List Wd} (h : WordsAt w X A n c ss) {s : Wd} (hs : ss[k]? = some s) : ∃ q o, A = some ⟨q, o, none⟩ ∧ w.cell? ⟨q, o + k, none⟩ = some (.string ⟨s.toArray⟩) ∧ ¬ X q := by
  obtain ⟨h1, h2, h3, h4, h5⟩ := h
  have hk := (List.getElem?_eq_some_iff.1 hs).1
  obtain ⟨q, o, rfl, hc⟩ := h4.2.2 (by omega)
  refine ⟨q, o, rfl, hc k _ (by rw [strCells, List.getElem?_map, hs]; rfl), fun hx => h5 q hx (by omega) _ rfl rfl⟩

/-- How many words go on by this byte. -/
def grp (ss : List Wd) (deep : Nat) (c : UInt8) : Nat := 1 + ((ss.map (List.drop deep)).tail.takeWhile (headIs c)).length

theorem headIs_at {t : Wd} {deep : Nat} {b c : UInt8} (h : t[deep]? = some b) : headIs c (t.drop deep) = decide (b = c) := by
  unfold headIs
  rw [List.head?_drop, h, Bool.eq_iff_iff, decide_eq_true_iff, beq_iff_eq]
  simp

theorem takeWhile_at {α : Type} {p : α → Bool} : ∀ {l : List α} {k : Nat} {x : α}, l[k]? = some x → k ≤ (l.takeWhile p).length → (p x = true → k + 1 ≤ (l.takeWhile p).length) ∧ (p x = false → (l.takeWhile p).length = k)
  | [], _, _, h, _ => by simp at h
  | y :: l, k, x, h, hk => by
    rcases k with _ | k
    · simp at h; subst h
      constructor
      · intro e; simp [List.takeWhile_cons, e]
      · intro e; simp [List.takeWhile_cons, e]
    · by_cases hy : p y = true
      · simp only [List.takeWhile_cons, hy, if_true, List.length_cons] at hk ⊢
        have := takeWhile_at (p := p) (l := l) (k := k) (x := x) (by simpa using h) (by omega)
        exact ⟨fun e => by have := this.1 e; omega, fun e => by have := this.2 e; omega⟩
      · simp [List.takeWhile_cons, hy] at hk

theorem grp_step {ss : List Wd} {deep k : Nat} {t : Wd} {b c : UInt8} (h : ss[k]? = some t) (hb : t[deep]? = some b) (hk : 1 ≤ k) (hg : k ≤ grp ss deep c) : (b = c → k + 1 ≤ grp ss deep c) ∧ (b ≠ c → grp ss deep c = k) := by
  unfold grp at *
  have h1 : (ss.map (List.drop deep)).tail[k - 1]? = some (t.drop deep) := by
    rw [List.getElem?_tail, Nat.sub_add_cancel hk, List.getElem?_map, h]; rfl
  have := takeWhile_at (p := headIs c) h1 (by omega)
  rw [headIs_at hb] at this
  exact ⟨fun e => by have := this.1 (by simp [e]); omega, fun e => by have := this.2 (by simp [e]); omega⟩

theorem grp_le {ss : List Wd} {deep : Nat} {c : UInt8} (h : 0 < ss.length) : grp ss deep c ≤ ss.length := by
  unfold grp
  have := (List.takeWhile_sublist (headIs c) (l := (ss.map (List.drop deep)).tail)).length_le
  rw [List.length_tail, List.length_map] at this
  omega

/-- The first group of words, and the others. -/
theorem grp_words {ss : List Wd} {deep k : Nat} {s0 : Wd} {cb : UInt8} (h : ss[0]? = some s0) (hc : s0[deep]? = some cb) (hk : grp ss deep cb = k) :
    ∃ w0 T, ss.map (List.drop deep) = w0 :: T ∧ w0.headD 0 = cb ∧ (T.takeWhile (headIs (w0.headD 0))).length = k - 1 ∧ (ss.take k).map (List.drop (deep + 1)) = (w0 :: T.take (k - 1)).map List.tail ∧ (ss.drop k).map (List.drop deep) = T.drop (k - 1) := by
  cases ss with
  | nil => simp at h
  | cons s ss =>
    simp at h; subst h
    have hh : (List.drop deep s).headD 0 = cb := by
      rw [List.headD_eq_head?_getD, List.head?_drop, hc]; rfl
    obtain ⟨j, rfl⟩ : ∃ j, k = j + 1 := ⟨k - 1, by unfold grp at hk; omega⟩
    refine ⟨_, _, rfl, hh, ?_, ?_, ?_⟩
    · rw [hh]; unfold grp at hk; simp only [List.map_cons, List.tail_cons] at hk; omega
    · simp only [List.take_succ_cons, List.map_cons, List.tail_drop, Nat.add_sub_cancel, ← List.map_take, List.map_map]
      congr 1
      apply List.map_congr_left
      intro a _
      simp
    · simp [List.map_drop]

/-- What state comes to. -/
def StateRes (Y : Nat → Prop) (B M base : Nat) (lv : Value) (start : Int) (sts : List DSt) (f : Nat) (W : List Wd) (w : World) (e : Ending) (w' : World) : Prop :=
  e = .returned (.int .i64 (buildS f W sts).1) ∧ ∃ lv', Bd w' Y B M base lv' start (buildS f W sts).2 ∧ Kp (fun k => k = B ∨ k = M ∨ lv.ownBlock = some k) w w' ∧ (lv'.ownBlock = lv.ownBlock ∨ ∀ k, lv'.ownBlock = some k → w.heap.size ≤ k)

/-- The contract, for words of fewer than f bytes more. -/
def StateDoes (f : Nat) : Prop := ∀ (Y : Nat → Prop) (B M base : Nat) (lv : Value) (start : Int) (sts : List DSt) (ss : List Wd) (deep : Nat) (A : Option Addr) (n c : Nat) (w : World), Bd w Y B M base lv start sts → WordsAt w (fun k => k = B ∨ k = M ∨ lv.ownBlock = some k) A n c ss → (∀ k, Y k → k < w.heap.size) →
  (∀ s ∈ ss, deep ≤ s.length ∧ s.length < deep + f) → Rise (ss.map (List.drop deep)) → 0 < f → deep + f ≤ 2147483648 → sts.length + 1 + tot (ss.map (List.drop deep)) ≤ 2147483648 → ∀ di : Int, di = deep →
  Calls Tryd.prog 22 #[.pointer (some ⟨B, 0, none⟩), .slice A n c, .int .i64 di] w (StateRes Y B M base lv start sts f (ss.map (List.drop deep)) w)

theorem goOn_words {w : World} {X : Nat → Prop} {A : Option Addr} {n c deep : Nat} {ss : List Wd} (h : WordsAt w X A n c ss) (hd : ∀ s ∈ ss, deep ≤ s.length) :
    ((ss.map (List.drop deep)).head? == some []) = decide (∃ s, ss.head? = some s ∧ s.length = deep) := by
  cases ss with
  | nil => simp
  | cons s ss =>
    have := hd s (by simp)
    by_cases h : s.length = deep
    · have : List.drop deep s = [] := List.drop_eq_nil_of_le (by omega)
      simp [this, h]
    · have h2 : List.drop deep s ≠ [] := by intro e; have := List.drop_eq_nil_iff.1 e; omega
      simp [h2, h]

theorem edge_info : (Tryd.prog.info? 83).map (fun i => (i.zero, i.size, i.bytes)) = some (some (.agg #[.int .u8 0, .int .i64 0]), 2, 16) := by kernel_rfl

/-- The loop's own: where it stands. -/
structure StI (w : World) (Y : Nat → Prop) (B M base : Nat) (lv : Value) (start : Int) (sts : List DSt) (ss : List Wd) (deep f : Nat) (fin : Bool) (A : Option Addr) (n c : Nat) (ss' : List Wd) (lv' : Value) (sts' : List DSt) (es : List DEdge) (OA : Option Addr) (oc : Nat) (wr : World) : Prop where
  words : WordsAt w (fun k => k = B ∨ k = M ∨ lv.ownBlock = some k ∨ w.heap.size ≤ k) A n c ss'
  sub : ∀ s ∈ ss', s ∈ ss
  rise : Rise (ss'.map (List.drop deep))
  on : ∀ s ∈ ss', List.drop deep s ≠ []
  bd : Bd wr (fun k => Y k ∨ k = w.heap.size ∨ (Value.slice OA es.length oc).ownBlock = some k) B M base lv' start sts'
  kp : Kp (fun k => k = B ∨ k = M ∨ lv.ownBlock = some k) w wr
  hlv : lv'.ownBlock = lv.ownBlock ∨ ∀ k, lv'.ownBlock = some k → w.heap.size ≤ k
  hs : wr.heap[w.heap.size]? = some (.cells #[.bool fin, .slice OA es.length oc] 81 (0, 0))
  own : wr.ownsRow (w.heap.size + 1) 83 2 (.slice OA es.length oc) es.length (edgeCells es)
  lvs : ∀ k, lv'.ownBlock = some k → k ≠ w.heap.size ∧ (Value.slice OA es.length oc).ownBlock ≠ some k
  few : sts'.length + 1 + tot (ss'.map (List.drop deep)) ≤ 2147483648
  eq : ∃ m, ss'.length ≤ m ∧ edgesS (buildS f) (goOn (ss.map (List.drop deep))).length (goOn (ss.map (List.drop deep))) sts = (es ++ (edgesS (buildS f) m (ss'.map (List.drop deep)) sts').1, (edgesS (buildS f) m (ss'.map (List.drop deep)) sts').2)

set_option maxRecDepth 100000 in
set_option maxHeartbeats 1000000 in
theorem state_step (f : Nat) (ih : StateDoes f) : StateDoes (f + 1) := by
  intro Y B M base lv start sts ss deep A n c w h hs hY hlen hr _ hdf hfew di hdi
  subst hdi
  have H := Lib.hid h
  have hs2 : WordsAt w (fun k => k = B ∨ k = M ∨ lv.ownBlock = some k ∨ w.heap.size ≤ k) A n c ss := ⟨hs.1, hs.2.1, hs.2.2.1, hs.2.2.2.1, fun k hk => by
    rcases hk with hk | hk | hk | hk
    · exact hs.2.2.2.2 k (.inl hk)
    · exact hs.2.2.2.2 k (.inr (.inl hk))
    · exact hs.2.2.2.2 k (.inr (.inr hk))
    · exact hs.2.2.2.1.off_new (by decide) hk⟩
  have hnb := hs.2.2.1
  have hnc := hs.2.1
  have hn := hs.1
  have HS := Lib.hid hs2
  have HN := Lib.hid hn
  have HL := Lib.hid hlen
  have HR := Lib.hid hr
  have HG := Lib.hid (goOn_words hs2 (fun s h => (hlen s h).1))
  clear h hs hs2 hlen hr hn
  go_enter Tryd.func22, Tryd.ntmps22
  go_upto_region 2 with (fail)
  generalize hfin : ((ss.map (List.drop deep)).head? == some []) = fin
  rw [hfin] at HG
  generalize hw1 : w.alloc (.cells #[.bool false, .slice none 0 0] 81) = w1
  have hg1 : w.grownBy w1 none := by rw [← hw1]; exact World.grownBy_alloc _ _ _
  have hz1 : w1.heap.size = w.heap.size + 1 := by rw [← hw1]; simp
  have ht1 : w1.heap[w.heap.size]? = some (.cells #[.bool false, .slice none 0 0] 81 (0, 0)) := by
    rw [← hw1]; exact heap_alloc_new _ _
  have HZ1 := Lib.hid hz1
  have HT1 := Lib.hid ht1
  clear hz1 ht1 hw1
  go_cut [20] (fun s20 wx => s20 = .bool fin ∧ wx = w1)
  case first =>
    rcases Nat.eq_zero_or_pos n with h0 | h0
    · have hf : fin = false := by
        have := HG.out; rw [this]; have hh := HN.out; rw [h0] at hh; rw [List.length_eq_zero_iff.1 hh]; simp
      subst h0
      go_wp2_with fail
      go_meet
      exact ⟨by rw [hf], rfl⟩
    · obtain ⟨s0, hs0⟩ : ∃ s0, ss[0]? = some s0 := ⟨_, List.getElem?_eq_getElem (by have := HN.out; omega)⟩
      obtain ⟨q, o, rfl, hc, hq⟩ := HS.out.get hs0
      have hqw := World.block_lt_of_cell? w _ hc
      simp only [Nat.add_zero] at hc hqw
      have hc1 : w1.cell? ⟨q, o, none⟩ = some (.string ⟨s0.toArray⟩) := hg1.cell hc nofun
      have hss : (⟨s0.toArray⟩ : ByteArray).size = s0.length := by simp [ByteArray.size]
      have hlb := HL.out s0 (List.mem_of_getElem? hs0)
      have hf : fin = decide (s0.length = deep) := by
        have := HG.out; rw [this]; congr 1; rw [List.head?_eq_getElem?, hs0]; simp
      have HS0 := Lib.hid hs0
      have HF := Lib.hid hf
      clear hs0 hf hc
      go_wp2_with fail
      all_goals (go_meet; refine ⟨?_, rfl⟩)
      all_goals (rw [HF.out])
      all_goals
        simp only [Value.bool.injEq]
        rw [Bool.eq_iff_iff, beq_iff_eq, decide_eq_true_iff]
        constructor <;> intro hh <;> omega
  case rest =>
    obtain ⟨rfl, rfl⟩ := hcut
    go_upto_if 20 with (fail)
    go_cut [1] (fun s1 wx => ∃ A' n' c' ss', s1 = .slice A' n' c' ∧ WordsAt w (fun k => k = B ∨ k = M ∨ lv.ownBlock = some k ∨ w.heap.size ≤ k) A' n' c' ss' ∧ goOn (ss.map (List.drop deep)) = ss'.map (List.drop deep) ∧ (∀ s ∈ ss', s ∈ ss) ∧ w.grownBy wx none ∧ wx.heap.size = w.heap.size + 1 ∧ wx.heap[w.heap.size]? = some (.cells #[.bool fin, .slice none 0 0] 81 (0, 0)))
    case first =>
      cases fin
      · go_wp2_with fail
        go_meet
        refine ⟨A, n, c, ss, rfl, HS.out, ?_, fun _ h => h, hg1, HZ1.out, HT1.out⟩
        unfold goOn; rw [hfin]; rfl
      · obtain ⟨s0, hs0, hs1⟩ := of_decide_eq_true HG.out.symm
        have hn1 : 1 ≤ n := by
          have := HN.out
          cases ss with
          | nil => simp at hs0
          | cons _ _ => simp at this; omega
        have c0 := cell_of_heap HT1.out 0
        have z0 := frozen_of_heap HT1.out 0
        go_wp2_with fail
        go_region
        all_goals (go_wp2_with fail)
        all_goals go_meet
        all_goals
          refine ⟨_, _, _, ss.drop 1, rfl, HS.out.cut hn1 (by omega) (by first | (intro hh; omega) | (intro _; rfl)), ?_, fun _ h => List.mem_of_mem_drop h, grownBy_setCell (grownBy_drew hg1) _ _ _ (.inr (Nat.le_refl _)), by simp [HZ1.out], heap_setCell HT1.out 0 _⟩
          unfold goOn; rw [hfin]
          simp
    case rest =>
      obtain ⟨A1, n1, c1, ss1, rfl, HW1, hgo, hsub1, hgc, hzc, htc⟩ := hcut
      obtain ⟨go1, go2, go3⟩ := goOn_ok (f := f) (W := ss.map (List.drop deep)) (by
        intro x hx
        obtain ⟨y, hy, rfl⟩ := List.mem_map.1 hx
        have := HL.out y hy
        rw [List.length_drop]; omega) HR.out
      have go0 := go1
      rw [hgo] at go1 go2 go3
      have hI : StI w Y B M base lv start sts ss deep f fin A1 n1 c1 ss1 lv sts [] none 0 wc :=
        ⟨HW1, hsub1, go2, fun s hs => (go1 _ (List.mem_map.2 ⟨s, hs, rfl⟩)).2, (H.out.turn (fun k hk => by
          rcases hk with hk | hk | hk
          · exact .inl hk
          · exact .inr (by omega)
          · simp [Value.ownBlock] at hk)).kept hgc, Kp.of_grown hgc nofun, .inl rfl, htc, World.ownsRow_nil _ _ _ _, fun k hk => ⟨by have := (H.out.ne.2.2.2.2 k hk).2; omega, by simp [Value.ownBlock]⟩, by omega, ⟨ss1.length, Nat.le_refl _, by rw [hgo, List.length_map]; rfl⟩⟩
      have HI := Lib.hid hI
      clear hI HW1 hgo go1 go2 hsub1 hgc htc HT1 HS
      go_wp2_with fail
      go_loopw [1] (fun l wr => ∃ A n c ss' lv' sts' es OA oc, l = .slice A n c ∧ StI w Y B M base lv start sts ss deep f fin A n c ss' lv' sts' es OA oc wr) (fun l _ => match l with | .slice _ n _ => n | _ => 0)
      case atStart => exact ⟨A1, n1, c1, ss1, lv, sts, [], none, 0, rfl, HI.out⟩
      case round =>
        obtain ⟨A2, n2, c2, ss2, lv2, sts2, es, OA, oc, rfl, hI2⟩ := hrel
        have HI2 := Lib.hid hI2
        clear hI2
        rcases Nat.eq_zero_or_pos n2 with h0 | h0
        · subst h0
          have ct0 := cell_of_heap HI2.out.hs 0
          have ct1 := cell_of_heap HI2.out.hs 1
          have hss0 : ss2 = [] := List.length_eq_zero_iff.1 HI2.out.words.1
          subst hss0
          obtain ⟨m, hm, heq⟩ := HI2.out.eq
          have hem : edgesS (buildS f) m (([] : List Wd).map (List.drop deep)) sts2 = ([], sts2) := by cases m <;> rfl
          rw [hem, List.append_nil] at heq
          obtain ⟨ok1, ok2, ok3, _⟩ := edgesS_ok (buildS_ok f) _ _ sts (Nat.le_refl _) go0 (goOn_ok (f := f) (W := ss.map (List.drop deep)) (by
            intro x hx
            obtain ⟨y, hy, rfl⟩ := List.mem_map.1 hx
            have := HL.out y hy
            rw [List.length_drop]; omega) HR.out).2.1
          rw [heq] at ok2 ok3
          have hfew2 := HI2.out.few
          have hwr := HI2.out.kp.size
          go_wp2_with fail
          refine (know_walk Y B M base lv2 start sts2 fin es OA es.length oc wr (HI2.out.bd.turn fun k hk => .inl (.inl hk)) (by omega) rfl (rising_few ok3) ok2 (Sl.of_own HI2.out.own (edgeCells_one es)) ?_).mono ?_
          · intro k hk h0 a ha
            obtain ⟨q, cc, hv, _, hq, _⟩ := own_form HI2.out.own h0
            cases hv; cases ha
            rcases hk with rfl | rfl | hk | hk
            · have := H.out.ne.2.2.2.1; simp only; omega
            · have := H.out.ne.2.2.1; simp only; omega
            · intro e; exact (HI2.out.lvs k hk).2 (by rw [← e]; rfl)
            · have := hY k hk; simp only; omega
          · rintro e w3 ⟨rfl, lv3, hb3, hk3, hl3⟩
            go_wp2_with fail
            go_ret
            have hsz : w.heap.size ≤ wr.heap.size := HI2.out.kp.size
            rw [StateRes, buildS_succ, hfin, heq]
            refine ⟨rfl, lv3, hb3, HI2.out.kp.trans hk3 ?_, ?_⟩
            · intro i hi h
              rcases h with h | h | h
              · exact .inl h
              · exact .inr (.inl h)
              · rcases HI2.out.hlv with e | e
                · exact .inr (.inr (e ▸ h))
                · have := e i h; omega
            · rcases hl3 with e | e
              · rcases HI2.out.hlv with e2 | e2
                · exact .inl (e.trans e2)
                · exact .inr (fun k hk => e2 k (e ▸ hk))
              · exact .inr (fun k hk => Nat.le_trans hsz (e k hk))
        · obtain ⟨s0, hs0⟩ : ∃ s0, ss2[0]? = some s0 := ⟨_, List.getElem?_eq_getElem (by have := HI2.out.words.1; omega)⟩
          obtain ⟨q, o, rfl, hc, hq⟩ := HI2.out.words.get hs0
          have hXq : ¬ (q = B ∨ q = M ∨ lv.ownBlock = some q) := fun h => hq (by rcases h with h | h | h; exact .inl h; exact .inr (.inl h); exact .inr (.inr (.inl h)))
          have hc2 : wr.cell? ⟨q, o, none⟩ = some (.string ⟨s0.toArray⟩) := HI2.out.kp.cell hc hXq
          have hd0 : deep < s0.length := by
            have := HI2.out.on s0 (List.mem_of_getElem? hs0)
            rcases Nat.lt_or_ge deep s0.length with h | h
            · exact h
            · exact absurd (List.drop_eq_nil_of_le h) this
          have hss : (⟨s0.toArray⟩ : ByteArray).size = s0.length := by simp [ByteArray.size]
          obtain ⟨cb, hcb⟩ : ∃ cb, s0[deep]? = some cb := ⟨_, List.getElem?_eq_getElem hd0⟩
          have hx0 : ∀ h : deep < (⟨s0.toArray⟩ : ByteArray).size, (⟨s0.toArray⟩ : ByteArray)[deep] = cb := by
            intro h
            have := (List.getElem?_eq_some_iff.1 hcb).2
            rw [← this]; rfl
          have hn2 := HI2.out.words.2.2.1
          have hn2c := HI2.out.words.2.1
          have HS0 := Lib.hid hs0
          have HCB := Lib.hid hcb
          clear hs0 hc hcb
          have hgrp : grp ss2 deep cb ≤ n2 := by have := HI2.out.words.1; have := grp_le (ss := ss2) (deep := deep) (c := cb) (by omega); omega
          have hgrp1 : 1 ≤ grp ss2 deep cb := by unfold grp; omega
          go_upto_block 2 with (fail)
          go_cut [9] (fun j wx => j = .int .i64 (grp ss2 deep cb) ∧ wx = wr)
          case first =>
            go_wp2_with fail
            go_loopw [9] (fun j wi => ∃ k : Nat, 1 ≤ k ∧ k ≤ n2 ∧ j = .int .i64 k ∧ wi = wr ∧ k ≤ grp ss2 deep cb) (fun j _ => n2 - (intOf j).toNat)
            case atStart => exact ⟨1, Nat.le_refl _, h0, rfl, rfl, hgrp1⟩
            case round =>
              obtain ⟨k, hk1, hkn, rfl, rfl, hkg⟩ := hrel
              rcases Nat.lt_or_ge k n2 with hlt | hge
              · obtain ⟨t, ht⟩ : ∃ t, ss2[k]? = some t := ⟨_, List.getElem?_eq_getElem (by have := HI2.out.words.1; omega)⟩
                obtain ⟨q', o', e', hct, _⟩ := HI2.out.words.get ht
                cases e'
                have hct2 : wr.cell? ⟨q, o + k, none⟩ = some (.string ⟨t.toArray⟩) := HI2.out.kp.cell hct hXq
                have hdt : deep < t.length := by
                  have := HI2.out.on t (List.mem_of_getElem? ht)
                  rcases Nat.lt_or_ge deep t.length with h | h
                  · exact h
                  · exact absurd (List.drop_eq_nil_of_le h) this
                have hst : (⟨t.toArray⟩ : ByteArray).size = t.length := by simp [ByteArray.size]
                obtain ⟨tb, htb⟩ : ∃ tb, t[deep]? = some tb := ⟨_, List.getElem?_eq_getElem hdt⟩
                have hxt : ∀ h : deep < (⟨t.toArray⟩ : ByteArray).size, (⟨t.toArray⟩ : ByteArray)[deep] = tb := by
                  intro h
                  have := (List.getElem?_eq_some_iff.1 htb).2
                  rw [← this]; rfl
                obtain ⟨gs1, gs2⟩ := grp_step ht htb hk1 hkg
                clear hct
                by_cases hcc : tb = cb
                · have hg := gs1 hcc
                  subst hcc
                  go_wp2_with fail
                  go_roundw
                  case rel => exact ⟨k + 1, by omega, by omega, by go_num, by first | rfl | trivial, hg⟩
                  case measure => simp [intOf]; omega
                · have hg := gs2 hcc
                  have hne : tb.toNat ≠ cb.toNat := fun e => hcc (UInt8.toNat_inj.1 e)
                  go_wp2_with fail
                  go_meet
                  exact ⟨by rw [hg], rfl⟩
              · have hg : grp ss2 deep cb = k := by omega
                obtain rfl : k = n2 := by omega
                go_wp2_with fail
                go_meet
                exact ⟨by rw [hg], rfl⟩
          case rest =>
            obtain ⟨rfl, rfl⟩ := hcut
            generalize hgk : grp ss2 deep cb = k
            rw [hgk] at hgrp hgrp1
            have ct1 := cell_of_heap HI2.out.hs 1
            have zt1 := frozen_of_heap HI2.out.hs 1
            have hkc : k ≤ c2 := by omega
            obtain ⟨i0, hi, hz0, hz1, hz2⟩ := info_parts edge_info
            have hne0 := H.out.ne
            have hwc : w.heap.size ≤ wc.heap.size := HI2.out.kp.size
            have hSs : ¬ (w.heap.size = B ∨ w.heap.size = M ∨ lv2.ownBlock = some w.heap.size) := by
              rintro (h | h | h)
              · omega
              · omega
              · exact (HI2.out.lvs _ h).1 rfl
            have hOs : (Value.slice OA es.length oc).ownBlock ≠ some w.heap.size := fun e => by have := (HI2.out.own.lt _ e).1; omega
            have hSo : ∀ l, (Value.slice OA es.length oc).ownBlock = some l → ¬ (l = B ∨ l = M ∨ lv2.ownBlock = some l) := by
              intro l hl
              have := (HI2.out.own.lt l hl).1
              rintro (h | h | h)
              · omega
              · omega
              · exact (HI2.out.lvs _ h).2 hl
            obtain ⟨w0, T, hW, hw0, hT, htk, hdr⟩ := grp_words HS0.out HCB.out hgk
            obtain ⟨m, hm, heq⟩ := HI2.out.eq
            obtain ⟨m, rfl⟩ : ∃ m', m = m' + 1 := ⟨m - 1, by have := HI2.out.words.1; omega⟩
            have hon : ∀ x ∈ w0 :: T, x.length < f + 1 ∧ x ≠ [] := by
              intro x hx
              rw [← hW] at hx
              obtain ⟨y, hy, rfl⟩ := List.mem_map.1 hx
              have := HL.out y (HI2.out.sub y hy)
              exact ⟨by rw [List.length_drop]; omega, HI2.out.on y hy⟩
            have hri := HI2.out.rise
            have hfw := HI2.out.few
            rw [hW] at hri hfw heq
            obtain ⟨gr1, gr2, gr3, gr4⟩ := group_ok hon hri hT
            have hlen2 := buildS_len f _ sts2 gr1 gr2
            have heq2 : edgesS (buildS f) (m + 1) (w0 :: T) sts2 = ((cb, (buildS f ((w0 :: T.take (k - 1)).map List.tail) sts2).1) :: (edgesS (buildS f) m (T.drop (k - 1)) (buildS f ((w0 :: T.take (k - 1)).map List.tail) sts2).2).1, (edgesS (buildS f) m (T.drop (k - 1)) (buildS f ((w0 :: T.take (k - 1)).map List.tail) sts2).2).2) := by
              have hT' := hT
              rw [hw0] at hT'
              simp only [edgesS, hw0, hT']
            rw [heq2] at heq
            obtain ⟨_, _, ok3, _⟩ := edgesS_ok (buildS_ok f) _ _ sts (Nat.le_refl _) go0 (goOn_ok (f := f) (W := ss.map (List.drop deep)) (by
              intro x hx
              obtain ⟨y, hy, rfl⟩ := List.mem_map.1 hx
              have := HL.out y hy
              rw [List.length_drop]; omega) HR.out).2.1
            rw [heq] at ok3
            have hfewe := rising_few ok3
            simp only [List.length_append, List.length_cons] at hfewe
            have hrec : Calls Tryd.prog 22 #[.pointer (some ⟨B, 0, none⟩), .slice (some ⟨q, o, none⟩) k c2, .int .i64 (IntKind.i64.wrap (↑deep + 1))] wc.drew (StateRes (fun k => Y k ∨ k = w.heap.size ∨ (Value.slice OA es.length oc).ownBlock = some k) B M base lv2 start sts2 f ((w0 :: T.take (k - 1)).map List.tail) wc.drew) := by
              rw [← htk]
              obtain ⟨t1, t2, t3, t4, t5⟩ := HI2.out.words.take hgrp
              refine ih _ B M base lv2 start sts2 (ss2.take k) (deep + 1) _ k _ _ (HI2.out.bd.kept (grownBy_drew (grownBy_refl _ _))) ⟨t1, t2, t3, ?_, ?_⟩ ?_ ?_ ?_ gr3 (by omega) ?_ _ ?_
              · exact (HI2.out.kp.sl t4 (fun l _ hl => t5 l (by rcases hl with h | h | h; exact .inl h; exact .inr (.inl h); exact .inr (.inr (.inl h))))).kept (grownBy_drew (grownBy_refl wc none)) nofun
              · rintro l (h | h | h)
                · exact t5 l (.inl h)
                · exact t5 l (.inr (.inl h))
                · rcases HI2.out.hlv with e | e
                  · exact t5 l (.inr (.inr (.inl (e ▸ h))))
                  · exact t5 l (.inr (.inr (.inr (e l h))))
              · rintro l (h | h | h)
                · have := hY l h; show l < wc.heap.size; omega
                · have := heap_lt HI2.out.hs; show l < wc.heap.size; omega
                · exact (HI2.out.own.lt l h).2
              · intro x hx
                have hx2 := List.mem_of_mem_take hx
                have := HL.out x (HI2.out.sub x hx2)
                have h3 := HI2.out.on x hx2
                have h4 : ¬ x.length ≤ deep := fun h => h3 (List.drop_eq_nil_of_le h)
                omega
              · rw [htk]; exact gr2
              · rw [htk]; omega
              · simp only [IntKind.wrap, IntKind.bits, IntKind.signed]
                simp only [Bool.true_and]
                split <;> rename_i hh <;> simp at hh <;> omega
            unfold StateRes at hrec
            generalize hrb : buildS f ((w0 :: T.take (k - 1)).map List.tail) sts2 = rb at hrec heq hlen2
            have HREC := Lib.hid hrec
            clear hrec
            go_wp2_with fail
            go_region_law
              (first
                | (go_simp; go_at_call 22; refine HREC.out.mono ?_; rintro e w3 ⟨rfl, lv3, hb3, hk3, hl3⟩; have ht3 := hk3.heap (a := wc.drew) HI2.out.hs hSs; have ho3 := hk3.ownsRow (a := wc.drew) HI2.out.own hSo; have ct3 := cell_of_heap ht3 1; have zt3 := frozen_of_heap ht3 1; have hlt3 := heap_lt ht3; have hal3 := World.grownBy_alloc w3 (.cells #[.int .u8 cb.toNat, .int .i64 rb.1] 83) none; have ca3 := hal3.cell (a := ⟨w.heap.size, 1, none⟩) ct3 nofun; have HT3 := Lib.hid ht3; clear ht3)
                | (refine step_append_sl _ (by rfl) _ _ 79 (by rfl) (w.heap.size + 1) 83 i0 _ 2 16 Tryd.underlying79 hi hz0 hz1 hz2 rfl (by decide) (.slice OA es.length oc) es.length (edgeCells es) (by rfl) (ho3.alloc _) (some ⟨w3.heap.size, 0, none⟩) 1 1 [.int .u8 cb.toNat, .int .i64 rb.1] (by rfl) (Sl.of_own (World.ownsRow_lit (base := 0) (size := 2) w3 #[.int .u8 cb.toNat, .int .i64 rb.1] 1 (Nat.zero_le _) (by decide) rfl) (by intro x hx; simp at hx; rcases hx with rfl | rfl <;> rfl)) (by unfold maxLen; omega) (by omega) (by simp; omega) ?_; intro lv5 w6 happ6; obtain ⟨q6, c6, hv6, _, hb6, hq6⟩ := own_form happ6.1 (by omega); subst hv6; have ht6 := grownBy_heap happ6.2.1 (grownBy_heap hal3 HT3.out nofun) hOs; have ct6 := cell_of_heap ht6 1; have zt6 := frozen_of_heap ht6 1; have HT6 := Lib.hid ht6; clear ht6))
            all_goals
              have hle : (es ++ [(cb, rb.1)]).length = es.length + 1 := by simp
              have hov : ∀ l, (Value.slice OA es.length oc).ownBlock = some l → w.heap.size + 1 ≤ l ∧ l < wc.heap.size := fun l h => HI2.out.own.lt l h
              have hk3s : wc.heap.size ≤ w3.heap.size := hk3.size
              have hne3 := hb3.ne
              have hBs := heap_lt HI2.out.hs
              have hlv3 : ∀ l, lv3.ownBlock = some l → l ≠ w.heap.size ∧ (Value.slice OA es.length oc).ownBlock ≠ some l := by
                intro l hl
                rcases hl3 with e | e
                · exact HI2.out.lvs l (e ▸ hl)
                · have h1 : wc.heap.size ≤ l := e l hl
                  refine ⟨by omega, fun e2 => ?_⟩
                  have := (hov l e2).2; omega
              have hnv : ∀ l, (Value.slice (some ⟨q6, 0, none⟩) (es.length + 1) c6).ownBlock = some l → (Value.slice OA es.length oc).ownBlock = some l ∨ l = w3.heap.size + 1 := by
                intro l hl
                rcases happ6.2.2 with e | e
                · exact .inl (e ▸ hl)
                · rw [e] at hl; simp at hl; exact .inr hl.symm
              have hsb : (w3.alloc (.cells #[.int .u8 cb.toNat, .int .i64 rb.1] 83)).heap.size = w3.heap.size + 1 := by simp
              have bd4 := ((hb3.kept hal3).turn (Z := fun l => (Y l ∨ l = w.heap.size ∨ (Value.slice OA es.length oc).ownBlock = some l) ∨ (Value.slice (some ⟨q6, 0, none⟩) (es.length + 1) c6).ownBlock = some l) (fun l hl => by
                rcases hl with hl | hl
                · exact .inl hl
                · rcases hnv l hl with e | e
                  · exact .inl (.inr (.inr e))
                  · exact .inr (by omega))).keptY happ6.2.1 (fun l hl => .inl (.inl (.inr (.inr hl)))) (fun e => by have := (hov _ e).1; omega) (fun e => by have := (hov _ e).1; omega) (by
                  rcases hlb : lv3.ownBlock with _ | l
                  · exact .inl rfl
                  · exact .inr (fun e => (hlv3 l hlb).2 e.symm))
              have bd5 := (bd4.keptY (grownBy_setCell (grownBy_refl w6 (some w.heap.size)) w.heap.size 1 (.slice (some ⟨q6, 0, none⟩) (es.length + 1) c6) (.inl rfl)) (fun l hl => .inl (.inl (.inr (.inl (by cases hl; rfl))))) (by intro e; cases e; omega) (by intro e; cases e; omega) (by
                  rcases hlb : lv3.ownBlock with _ | l
                  · exact .inl rfl
                  · exact .inr (fun e => (hlv3 l hlb).1 (by cases e; rfl)))).turn (Z := fun l => Y l ∨ l = w.heap.size ∨ (Value.slice (some ⟨q6, 0, none⟩) (es ++ [(cb, rb.1)]).length c6).ownBlock = some l) (fun l hl => by
                rcases hl with hl | hl | hl
                · exact .inl (.inl (.inl hl))
                · exact .inl (.inl (.inr (.inl hl)))
                · exact .inl (.inr hl))
              have kp3 : Kp (fun k => k = B ∨ k = M ∨ lv.ownBlock = some k) w w3 := (HI2.out.kp.trans (Kp.of_grown (S := fun _ => False) (r := none) (grownBy_drew (grownBy_refl wc none)) nofun) (fun _ _ h => h.elim)).trans hk3 (fun i hi h => by
                rcases h with h | h | h
                · exact .inl h
                · exact .inr (.inl h)
                · rcases HI2.out.hlv with e | e
                  · exact .inr (.inr (e ▸ h))
                  · have := e i h; omega)
              have kp6 := ((kp3.trans (Kp.of_grown (S := fun _ => False) hal3 nofun) (fun _ _ h => h.elim)).trans (Kp.of_grown (S := fun k => w.heap.size ≤ k) happ6.2.1 (fun l e => .inl (by have := (hov l e).1; omega))) (fun i hi h => by omega)).trans (Kp.of_grown (S := fun k => w.heap.size ≤ k) (grownBy_setCell (grownBy_refl w6 (some w.heap.size)) w.heap.size 1 (.slice (some ⟨q6, 0, none⟩) (es.length + 1) c6) (.inl rfl)) (fun l e => .inl (by cases e; exact Nat.le_refl _))) (fun i hi h => by omega)
              have own7 := ownsRow_setCell happ6.1 (k := w.heap.size) (by intro e; rcases hnv _ e with e | e; exact hOs e; omega) 1 (.slice (some ⟨q6, 0, none⟩) (es.length + 1) c6)
              have hnext : ∀ A' c', WordsAt w (fun k => k = B ∨ k = M ∨ lv.ownBlock = some k ∨ w.heap.size ≤ k) A' (n2 - k) c' (ss2.drop k) → StI w Y B M base lv start sts ss deep f fin A' (n2 - k) c' (ss2.drop k) lv3 rb.2 (es ++ [(cb, rb.1)]) (some ⟨q6, 0, none⟩) c6 (w6.setCell ⟨w.heap.size, 1, none⟩ (.slice (some ⟨q6, 0, none⟩) (es.length + 1) c6)) := by
                intro A' c' hwords
                refine ⟨hwords, fun x hx => HI2.out.sub x (List.mem_of_mem_drop hx), ?_, fun x hx => HI2.out.on x (List.mem_of_mem_drop hx), bd5, kp6, ?_, ?_, ?_, ?_, ?_, m, ?_, ?_⟩
                · rw [hdr]; exact hri.sub ((List.drop_sublist _ _).trans (List.sublist_cons_self _ _))
                · rcases hl3 with e | e
                  · rcases HI2.out.hlv with e2 | e2
                    · exact .inl (e.trans e2)
                    · exact .inr (fun l hl => e2 l (e ▸ hl))
                  · exact .inr (fun l hl => Nat.le_trans hwc (e l hl))
                · rw [hle]; exact heap_setCell HT6.out 1 _
                · rw [hle, edgeCells_append]; exact own7
                · intro l hl
                  rw [hle]
                  refine ⟨(hlv3 l hl).1, fun e => ?_⟩
                  rcases hnv l e with e | e
                  · exact (hlv3 l hl).2 e
                  · have := (hne3.2.2.2.2 l hl).2; omega
                · rw [hdr]; omega
                · have := HI2.out.words.1; rw [List.length_drop]; omega
                · rw [heq, hdr]; simp
              have HX := Lib.hid hnext
              clear hnext bd4 bd5 kp3 kp6 own7 hle hov hlv3 hnv
            all_goals (go_wp2_with fail)
            all_goals
              (go_roundw
               case rel => exact ⟨_, n2 - k, _, ss2.drop k, lv3, rb.2, es ++ [(cb, rb.1)], _, c6, rfl, HX.out _ _ (HI2.out.words.cut hgrp (by omega) (by first | (intro hh; omega) | (intro _; rfl) | (intro hh; rw [if_neg (by omega)]; rfl)))⟩
               case measure => simp; omega)

theorem state_walk : ∀ f, StateDoes f
  | 0 => fun _ _ _ _ _ _ _ _ _ _ _ _ _ _ _ _ _ _ h => absurd h (by omega)
  | f + 1 => state_step f (state_walk f)
end Go.Proofs.YtdcdhcgfhapbnaaDoor
