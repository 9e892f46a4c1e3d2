/-
  Package dawg: know: the walk. Conditions: fewer than 2^31 states; a state has at most 256 edges.
-/
import Derived.Test.YtdcdhcgfhapbnaaDoorDawgK
import Derived.Deep.RegionLaw
namespace Go.Proofs.YtdcdhcgfhapbnaaDoor
open Go Go.RowKit Go.Maps

theorem edgeCells_get {es : List DEdge} {k : Nat} {e : DEdge} (h : es[k]? = some e) : (edgeCells es)[k * 2]? = some (.int .u8 e.1.toNat) ∧ (edgeCells es)[k * 2 + 1]? = some (.int .i64 e.2) := by
  induction es generalizing k with
  | nil => simp at h
  | cons x es ih =>
    have he : edgeCells (x :: es) = .int .u8 x.1.toNat :: .int .i64 x.2 :: edgeCells es := rfl
    rcases k with _ | k
    · simp at h; subst h; rw [he]; exact ⟨rfl, rfl⟩
    · have := ih (k := k) (by simpa using h)
      rw [he, show (k + 1) * 2 = k * 2 + 1 + 1 by omega]
      exact ⟨by simpa using this.1, by simpa using this.2⟩

theorem edgeCells_len (es : List DEdge) : (edgeCells es).length = es.length * 2 := by
  induction es with
  | nil => rfl
  | cons x es ih =>
    have he : edgeCells (x :: es) = .int .u8 x.1.toNat :: .int .i64 x.2 :: edgeCells es := rfl
    rw [he]; simp [ih]; omega

theorem edgeCells_one (es : List DEdge) : ∀ x ∈ edgeCells es, x.oneCell' = true := by
  intro x hx
  simp only [edgeCells, List.mem_flatMap] at hx
  obtain ⟨e, _, hx⟩ := hx
  simp at hx
  rcases hx with rfl | rfl <;> rfl

theorem edgeCells_append (es fs : List DEdge) : edgeCells (es ++ fs) = edgeCells es ++ edgeCells fs := by simp [edgeCells]

/-- What know comes to. -/
def KnowRes (Y : Nat → Prop) (B M base : Nat) (lv : Value) (start : Int) (sts : List DSt) (s : DSt) (w : World) (e : Ending) (w' : World) : Prop :=
  e = .returned (.int .i64 (knowS sts s).1) ∧ ∃ lv', Bd w' Y B M base lv' start (knowS sts s).2 ∧ Kp (fun k => k = B ∨ k = M ∨ lv.ownBlock = some k) w w' ∧ (lv'.ownBlock = lv.ownBlock ∨ ∀ k, lv'.ownBlock = some k → w.heap.size ≤ k)

theorem edgeText_cells (e : DEdge) (h : e.2 < 4294967296) : Lib.byteCells (edgeText e) = [.int .u8 e.1.toNat, .int .u8 ((e.2 : Int) % 256), .int .u8 ((e.2 : Int) / 256 % 256), .int .u8 ((e.2 : Int) / 65536 % 256), .int .u8 ((e.2 : Int) / 16777216)] := by
  simp only [Lib.byteCells, edgeText, List.map_cons, List.map_nil, UInt8.toNat_ofNat']
  simp only [List.cons.injEq, Value.int.injEq, true_and, and_true]
  refine ⟨by omega, by omega, by omega, by omega⟩

theorem byteCells_append (a b : List UInt8) : Lib.byteCells (a ++ b) = Lib.byteCells a ++ Lib.byteCells b := by simp [Lib.byteCells]
theorem byteCells_length (a : List UInt8) : (Lib.byteCells a).length = a.length := by simp [Lib.byteCells]
theorem byteCells_one (a : List UInt8) : ∀ x ∈ Lib.byteCells a, x.oneCell' = true := by
  intro x hx
  simp only [Lib.byteCells, List.mem_map] at hx
  obtain ⟨_, _, rfl⟩ := hx
  rfl

theorem isBuilder_grown {B b : Nat} {bs : List Value} {w w' : World} {r : Option Nat} (h : Lib.IsBuilder 111 5 B b bs w) (g : w.grownBy w' r) (hr : ∀ k, r = some k → k < B) : Lib.IsBuilder 111 5 B b bs w' := by
  have one : ∀ p, Lib.BuilderAt 111 5 B b p bs w → Lib.BuilderAt 111 5 B b p bs w' := by
    rintro p ⟨hB, v, hh, ho, hne⟩
    refine ⟨hB, v, grownBy_heap g hh (fun e => by have := hr b e; omega), ownsRow_kept ho g ?_, hne⟩
    rcases hv : v.ownBlock with _ | k
    · exact .inl rfl
    · refine .inr (fun e => ?_)
      have := hr k e.symm; have := (ho.lt k hv).1; omega
  exact h.imp (one _) (one _)

set_option maxRecDepth 100000 in
set_option maxHeartbeats 1000000 in
theorem know_walk (Y : Nat → Prop) (B M base : Nat) (lv : Value) (start : Int) (sts : List DSt) (fin : Bool) (es : List DEdge) (A : Option Addr) (n c : Nat) (w : World) (h : Bd w Y B M base lv start sts) (hfew : sts.length < 2147483648)
    (hn : es.length = n) (hn2 : n ≤ 256) (hto : ∀ e ∈ es, e.2 < sts.length) (hs : Sl w 2 A n (edgeCells es)) (hoff : ∀ k, k = B ∨ k = M ∨ lv.ownBlock = some k ∨ Y k → Off A n k) :
    Calls Tryd.prog 41 #[.pointer (some ⟨B, 0, none⟩), .agg #[.bool fin, .slice A n c]] w (KnowRes Y B M base lv start sts (fin, es) w) := by
  have H := Lib.hid h
  have HN := Lib.hid hn
  have HS := Lib.hid hs
  have HO := Lib.hid hoff
  have HT := Lib.hid hto
  clear h hn hs hoff hto
  go_enter Tryd.func41, Tryd.ntmps41
  go_wp2_with fail
  generalize hw1 : w.alloc (.cells #[.bool fin, .slice A n c] 81) = w1
  generalize hw2 : w1.alloc (.cells #[.pointer none, .slice none 0 0] 111) = w2
  have hg2 : w.grownBy w2 none := by rw [← hw2, ← hw1]; exact grownBy_alloc (World.grownBy_alloc _ _ _) _
  have hz1 : w1.heap.size = w.heap.size + 1 := by rw [← hw1]; simp
  have hz2 : w2.heap.size = w.heap.size + 2 := by rw [← hw2]; simp [hz1]
  have ht2 : w2.heap[w.heap.size]? = some (.cells #[.bool fin, .slice A n c] 81 (0, 0)) := by
    rw [← hw2, Below.heap_alloc _ _ _ (by omega), ← hw1]; exact heap_alloc_new _ _
  have hbu : Lib.IsBuilder 111 5 (w.heap.size + 1) (w.heap.size + 1) [] w2 :=
    .inl ⟨Nat.le_refl _, .slice none 0 0, by rw [← hw2, ← hz1]; exact heap_alloc_new _ _, World.ownsRow_nil _ _ _ _, by simp [Value.ownBlock]⟩
  have HZ := Lib.hid hz2
  have HT2 := Lib.hid ht2
  clear hw1 hw2 hz1 hz2 ht2
  go_loopw [14] (fun i wr => ∃ k : Nat, k ≤ n ∧ i = .int .i64 k ∧ Lib.IsBuilder 111 5 (w.heap.size + 1) (w.heap.size + 1) (Lib.byteCells (outText (es.take k))) wr ∧ Below (w.heap.size + 1) w2 wr) (fun i _ => n - (intOf i).toNat)
  case atStart => exact ⟨0, Nat.zero_le _, rfl, by simpa [outText, Lib.byteCells] using hbu, Below.refl _ _⟩
  case round =>
    obtain ⟨k, hk, rfl, hb, hg⟩ := hrel
    by_cases hlt : k < n
    · obtain ⟨e0, he0⟩ : ∃ e0, es[k]? = some e0 := ⟨_, List.getElem?_eq_getElem (by have := HN.out; omega)⟩
      obtain ⟨q, o, rfl, hc⟩ := (HS.out.kept hg2 nofun).2.2 (by omega)
      have hto := HT.out e0 (List.mem_of_getElem? he0)
      obtain ⟨g0, g1⟩ := edgeCells_get he0
      have x0 := hc _ _ g0
      have x1 := hc _ _ g1
      rw [← Nat.add_assoc] at x1
      have hqt : q < w.heap.size + 1 := by
        obtain ⟨a, ha, hlt⟩ := HS.out.lt (by omega) (by omega); cases ha; simp at hlt; omega
      have y0 : wr.cell? ⟨q, o + k * 2, none⟩ = some (.int .u8 e0.1.toNat) := (hg.cell (p := ⟨q, _, none⟩) hqt).trans x0
      have y1 : wr.cell? ⟨q, o + k * 2 + 1, none⟩ = some (.int .i64 e0.2) := (hg.cell (p := ⟨q, _, none⟩) hqt).trans x1
      have HE := Lib.hid he0
      clear hc g0 g1 x0 x1 he0
      go_wp2_with fail
      have hg2w := World.grownBy_alloc (wr.alloc (.cells #[.int .u8 e0.1.toNat, .int .i64 e0.2] 83)) (.cells #[.int .u8 e0.1.toNat, .int .u8 ((e0.2 : Int) % 256), .int .u8 ((e0.2 : Int) / 256 % 256), .int .u8 ((e0.2 : Int) / 65536 % 256), .int .u8 ((e0.2 : Int) / 16777216)] 5) none
      have hg1w := grownBy_trans (World.grownBy_alloc wr (.cells #[.int .u8 e0.1.toNat, .int .i64 e0.2] 83) none) hg2w nofun
      have hown := World.ownsRow_lit (base := 0) (size := 1) (e := 5) (wr.alloc (.cells #[.int .u8 e0.1.toNat, .int .i64 e0.2] 83)) #[.int .u8 e0.1.toNat, .int .u8 ((e0.2 : Int) % 256), .int .u8 ((e0.2 : Int) / 256 % 256), .int .u8 ((e0.2 : Int) / 65536 % 256), .int .u8 ((e0.2 : Int) / 16777216)] 5 (Nat.zero_le _) (by decide) rfl
      simp only [World.size_alloc] at hown
      have hsl := Sl.of_own (cs := Lib.byteCells (edgeText e0)) (by rw [edgeText_cells e0 (by omega)]; exact hown) (byteCells_one _)
      refine (write_any (w.heap.size + 1) (w.heap.size + 1) (Lib.byteCells (outText (es.take k))) (Lib.byteCells (edgeText e0)) (some ⟨wr.heap.size + 1, 0, none⟩) 5 5 _ (isBuilder_grown hb hg1w nofun) (by have := HZ.out; have := hg.size; simp; omega) hsl (by intro _ a ha; cases ha; have := HZ.out; have := hg.size; simp; omega) (by rw [byteCells_length, outText_len, List.length_take]; omega)).mono ?_
      rintro e w3 ⟨rfl, hb3, hg3⟩
      rw [← byteCells_append, ← outText_take es k e0 HE.out] at hb3
      have hgr : Below (w.heap.size + 1) w2 w3 := (hg.trans ((Below.refl _ wr).grown hg1w (by have := HZ.out; have := hg.size; omega) nofun)).trans hg3
      go_wp2_with fail
      go_roundw
      case rel => exact ⟨k + 1, by omega, by go_num, hb3, hgr⟩
      case measure => simp [intOf]; omega
    · obtain rfl : k = n := by omega
      rw [List.take_of_length_le (by have := HN.out; omega)] at hb
      go_wp2_with fail
      have hcf : wr.cell? ⟨w.heap.size, 0, none⟩ = some (.bool fin) := (hg.cell (p := ⟨w.heap.size, 0, none⟩) (by show w.heap.size < _; omega)).trans (cell_of_heap HT2.out 0)
      have hB1 : w.heap.size + 2 ≤ wr.heap.size := by have := HZ.out; have := hg.size; omega
      have hnt : wr.heap.size ≠ w.heap.size := by omega
      have hnt' : w.heap.size ≠ wr.heap.size := by omega
      have hb2 := isBuilder_grown hb (World.grownBy_alloc wr (.cells #[.bool false, .string ⟨#[]⟩] 118) none) nofun
      go_cut [8] (fun s8 wx => ∃ kb, s8 = .pointer (some ⟨kb, 0, none⟩) ∧ w.heap.size + 1 ≤ kb ∧ wx.heap[kb]? = some (.cells #[.bool fin, .string ⟨(outText es).toArray⟩] 118 (0, 0)) ∧ Below (w.heap.size + 1) w2 wx)
      have hcf2 : (wr.alloc (.cells #[.bool false, .string ⟨#[]⟩] 118)).cell? ⟨w.heap.size, 0, none⟩ = some (.bool fin) := by
        rw [World.cell?_alloc_lt _ _ _ (by show w.heap.size < _; omega)]; exact hcf
      case first =>
        go_region_held3 (fun w' => w'.cell? ⟨w.heap.size, 0, none⟩ = some (.bool fin))
          (go_keep)
          (first
            | (go_at_call 63; refine (Tryd.Builder_String_any_k (w.heap.size + 1) (w.heap.size + 1) (outText es) _ (Lib.IsBuilderF.of ?_) ?_).mono ?_; (first | exact hb | exact hb2); (simp; omega); rintro e w3 ⟨rfl, _, hb3, hok⟩; have hcw : w3.cell? ⟨w.heap.size, 0, none⟩ = some (.bool fin) := (by first | exact (hb3.cell (p := ⟨w.heap.size, 0, none⟩) (by show w.heap.size < _; omega)).trans hcf | exact (hb3.cell (p := ⟨w.heap.size, 0, none⟩) (by show w.heap.size < _; omega)).trans hcf2); have hnw := World.new_ne w3 _ hcw; (try (have hx := hok wr.heap.size (.cells #[.bool false, .string ⟨#[]⟩] 118 (0, 0)) (heap_alloc_new wr _) (by simp; omega) (by intro c fz e; cases e); have hx0 := cell_of_heap hx 0; have hx1 := cell_of_heap hx 1; have hz0 := frozen_of_heap hx 0; have hz1 := frozen_of_heap hx 1; have HX := Lib.hid hx; clear hx))))
        all_goals (go_wp2_with fail; go_meet)
        · exact ⟨w3.heap.size, rfl, by have := hb3.size; simp at this; omega, heap_alloc_new _ _, (hg.drew.trans hb3).alloc (by have := hb3.size; simp at this; omega) _⟩
        · refine ⟨wr.heap.size, rfl, by omega, by rw [heap_setCell (heap_setCell HX.out _ _) _ _]; rfl, ?_⟩
          exact ((hg.trans ((((Below.refl _ wr).alloc (by omega) _).drew).trans hb3)).setCell (p := ⟨wr.heap.size, 0, none⟩) (by show _ ≤ wr.heap.size; omega) _).setCell (p := ⟨wr.heap.size, 1, none⟩) (by show _ ≤ wr.heap.size; omega) _
      case rest =>
        obtain ⟨kb, rfl, hkb, hkh, hgx⟩ := hcut
        have hgw : w.grownBy wc none := grownBy_on hg2 hgx (by omega)
        have hbd := H.out.kept hgw
        have hst := (hgx.block w.heap.size (by omega)).trans HT2.out
        have cm : wc.cell? ⟨B, 2, none⟩ = some (.map (some M)) := cell_of_heap hbd.hb 2
        have ck0 : wc.cell? ⟨kb, 0, none⟩ = some (.bool fin) := cell_of_heap hkh 0
        have ck1 : wc.cell? ⟨kb, 1, none⟩ = some (.string ⟨(outText es).toArray⟩) := cell_of_heap hkh 1
        obtain ⟨kl, hkl⟩ := keyOf_keyV (fin, es) (by have := HN.out; simp only; omega)
        have hsm : ∀ t ∈ sts, ∀ e ∈ t.2, e.2 < 4294967296 := fun t ht e he => by have := (hbd.small t ht).2 e he; omega
        have hes : ∀ e ∈ es, e.2 < 4294967296 := fun e he => by have := HT.out e he; omega
        have HSM := Lib.hid hsm
        have HES := Lib.hid hes
        clear hsm hes
        cases hfi : sts.findIdx? (· == (fin, es)) with
        | some i =>
          have hlook : ∀ m, (Instr.lookup 49 (.map (some M)) (.agg #[.bool fin, .string ⟨(outText es).toArray⟩]) true).run Tryd.prog (wc.drewN m) = .ok (.tuple #[.int .i64 (i : Int), .bool true]) (wc.drewN m) := by
            intro m
            refine (hbd.kept (grownBy_drewN (grownBy_refl wc none) m)).map.lookup_in key_law Tryd.underlying49 hkl ?_ ?_
            · intro p hp he
              obtain ⟨j, t, ht, rfl⟩ := kv_mem.1 hp
              have e := keyV_inj (s := t) (t := (fin, es)) (HSM.out t (List.mem_of_getElem? ht)) HES.out he
              rw [e] at ht
              rw [nodup_idx hbd.nodup ht (find_at hfi)]
            · exact ⟨_, kv_mem.2 ⟨i, _, find_at hfi, rfl⟩, rfl⟩
          have HF := Lib.hid hfi
          clear hfi
          go_wp2_with fail
          go_quiet (fail)
          go_wp2_with fail
          go_ret
          have ek : knowS sts (fin, es) = (i, sts) := by unfold knowS; rw [HF.out]
          rw [KnowRes, ek]
          exact ⟨rfl, lv, hbd.kept (grownBy_drewN (grownBy_refl wc none) _), Kp.of_grown (grownBy_drewN hgw _) nofun, .inl rfl⟩
        | none =>
          have hnk : ∀ p ∈ kvOf sts, p.1 ≠ keyV (fin, es) := by
            intro p hp he
            obtain ⟨j, t, ht, rfl⟩ := kv_mem.1 hp
            have e := keyV_inj (s := t) (t := (fin, es)) (HSM.out t (List.mem_of_getElem? ht)) HES.out he
            rw [e] at ht
            exact find_not hfi (List.mem_of_getElem? ht)
          have hlook : ∀ m, (Instr.lookup 49 (.map (some M)) (.agg #[.bool fin, .string ⟨(outText es).toArray⟩]) true).run Tryd.prog (wc.drewN m) = .ok (.tuple #[.int .i64 0, .bool false]) (wc.drewN m) := by
            intro m
            exact (hbd.kept (grownBy_drewN (grownBy_refl wc none) m)).map.lookup_out key_law Tryd.underlying49 (by kernel_rfl) hkl hnk
          have HF := Lib.hid hfi
          have HNK := Lib.hid hnk
          obtain ⟨LA, lc, rfl⟩ := hbd.form
          have cl : wc.cell? ⟨B, 0, none⟩ = some (.slice LA sts.length lc) := cell_of_heap hbd.hb 0
          clear hfi hnk
          go_wp2_with fail
          go_quiet (fail)
          go_wp2_with fail
          generalize hwd : wc.drewN nq = wd
          have hgd : wc.grownBy wd none := by rw [← hwd]; exact grownBy_drewN (grownBy_refl _ _) _
          have hbd2 := hbd.kept hgd
          have hst2 := grownBy_heap hgd hst nofun
          have cm2 : wd.cell? ⟨B, 2, none⟩ = some (.map (some M)) := cell_of_heap hbd2.hb 2
          have ck20 := hgd.cell ck0 nofun
          have ck21 := hgd.cell ck1 nofun
          have hgwd := grownBy_trans hgw hgd nofun
          obtain ⟨w5, hput, hm5, hg5⟩ := (hbd2.map.kept (grownBy_drew (grownBy_refl wd none)) nofun).put key_law Tryd.underlying49 (v := .int .i64 (sts.length : Int)) hkl HNK.out
          have hcd := hgd.size
          have HBD := Lib.hid hbd2
          have HST := Lib.hid hst2
          have HM5 := Lib.hid hm5
          simp only [keyV] at hput
          clear hwd hlook hbd hst cm ck0 ck1 cl hbd2 hst2 hm5 hgd hkh hbu hb
          go_still_tail 6, (by kernel_rfl)
          change wpList _ _ _ _ _ wd.drew
          go_wp2_with fail
          obtain ⟨nBM, nlM, hMlt, hBlt, hlvlt⟩ := HBD.out.ne
          have hMw := H.out.ne.2.2.1
          have hBw := H.out.ne.2.2.2.1
          have hb5 : w5.heap[B]? = some (.cells #[.slice LA sts.length lc, .int .i64 start, .map (some M)] 54 (0, 0)) := grownBy_heap hg5 HBD.out.hb (by intro e; cases e; exact nBM rfl)
          have hs5 := grownBy_heap (a := wd.drew) hg5 HST.out (by intro e; cases e; omega)
          have cl5 : w5.cell? ⟨B, 0, none⟩ = some (.slice LA sts.length lc) := cell_of_heap hb5 0
          have ct0 : w5.cell? ⟨w.heap.size, 0, none⟩ = some (.bool fin) := cell_of_heap hs5 0
          have ct1 : w5.cell? ⟨w.heap.size, 1, none⟩ = some (.slice A k c) := cell_of_heap hs5 1
          obtain ⟨i0, hi, hz0, hz1, hz2⟩ := info_parts state_info
          obtain ⟨vs, hvs0, hout⟩ := H.out.vs
          have hvs := ownsRow_kept hvs0 hgwd (own_none _)
          have hvs5 : w5.ownsRow base 81 2 (.slice LA sts.length lc) sts.length vs := ownsRow_kept (a := wd.drew) hvs hg5 (.inr nlM)
          have HB5 := Lib.hid hb5
          clear hb5 hs5 hput
          have hsx : Sl ((w5.alloc (.cells #[.bool fin, .slice A k c] 81)).drew) 2 (some ⟨w5.heap.size, 0, none⟩) 1 [.bool fin, .slice A k c] :=
            Sl.of_own (World.ownsRow_lit (base := 0) (size := 2) w5 #[.bool fin, .slice A k c] 1 (Nat.zero_le _) (by decide) rfl) (by intro x hx; simp at hx; rcases hx with rfl | rfl <;> rfl)
          have hwd5 : wd.heap.size ≤ w5.heap.size := hg5.size
          have hbB := HBD.out.bB
          have hbase : base ≤ w5.heap.size + 1 := by omega
          have hlB := HBD.out.lB
          have hwwd := hgwd.size
          have htB : w5.heap.size ≠ B := by omega
          have htt : w5.heap.size ≠ w.heap.size := by have := hgx.size; have := HZ.out; omega
          have hlt5 : (Value.slice LA sts.length lc).ownBlock ≠ some w.heap.size := by intro e; have := (H.out.ne.2.2.2.2 _ e).2; omega
          have ca5 : (w5.alloc (.cells #[.bool fin, .slice A k c] 81)).cell? ⟨B, 0, none⟩ = some (.slice LA sts.length lc) := by rw [World.cell?_alloc_lt _ _ _ (by show B < _; omega)]; exact cl5
          have cb5 : (w5.alloc (.cells #[.bool fin, .slice A k c] 81)).cell? ⟨w.heap.size, 0, none⟩ = some (.bool fin) := by rw [World.cell?_alloc_lt _ _ _ (by show w.heap.size < _; omega)]; exact ct0
          have cc5 : (w5.alloc (.cells #[.bool fin, .slice A k c] 81)).cell? ⟨w.heap.size, 1, none⟩ = some (.slice A k c) := by rw [World.cell?_alloc_lt _ _ _ (by show w.heap.size < _; omega)]; exact ct1
          go_region_law
            (first
              | (refine step_append_sl _ (by rfl) _ _ 50 (by rfl) base 81 i0 _ 2 32 Tryd.underlying50 hi hz0 hz1 hz2 rfl (by decide) (.slice LA sts.length lc) sts.length vs (by rfl) ((hvs5.alloc _).drew) (some ⟨w5.heap.size, 0, none⟩) 1 1 [.bool fin, .slice A k c] (by rfl) hsx (by unfold maxLen; omega) (by omega) (by simp; omega) ?_; intro lv2 w6 happ6; obtain ⟨q6, c6, hv6, _, _, hq6⟩ := own_form happ6.1 (by omega); subst hv6; have m0 : w6.cell? ⟨B, 0, none⟩ = some (.slice LA sts.length lc) := happ6.2.1.cell (by show (w5.alloc _).cell? _ = _; rw [World.cell?_alloc_lt _ _ _ (by show B < _; omega)]; exact cl5) (fun e => hlB e.symm); have m1 : w6.cell? ⟨w.heap.size, 0, none⟩ = some (.bool fin) := happ6.2.1.cell (by show (w5.alloc _).cell? _ = _; rw [World.cell?_alloc_lt _ _ _ (by show w.heap.size < _; omega)]; exact ct0) (fun e => hlt5 e.symm); have m2 : w6.cell? ⟨w.heap.size, 1, none⟩ = some (.slice A k c) := happ6.2.1.cell (by show (w5.alloc _).cell? _ = _; rw [World.cell?_alloc_lt _ _ _ (by show w.heap.size < _; omega)]; exact ct1) (fun e => hlt5 e.symm); have hb6 := grownBy_heap happ6.2.1 (show (w5.alloc (.cells #[.bool fin, .slice A k c] 81)).heap[B]? = _ from grownBy_heap (World.grownBy_alloc w5 _ none) HB5.out nofun) hlB; have z6 := frozen_of_heap hb6 0; have HB6 := Lib.hid hb6; clear hb6))
          all_goals (clear m0 m1 m2; go_wp2_with fail; go_ret)
          all_goals
            have hown6 := happ6.1
            have hg6 := happ6.2.1
            have hat6 := happ6.2.2
            have hsz5 := hg5.size
            have ek : knowS sts (fin, es) = (sts.length, sts ++ [(fin, es)]) := by unfold knowS; rw [HF.out]
            rw [KnowRes, ek]
            have g5 : Kp (fun k => k = B ∨ k = M ∨ (Value.slice LA sts.length lc).ownBlock = some k) w w5 := Kp.trans (Kp.of_grown (grownBy_drew hgwd) nofun) (Kp.of_grown hg5 (S := fun k => k = M) (fun k e => .inl (by cases e; rfl))) (fun i _ hi => .inr (.inl hi))
            have g6 : Kp (fun k => k = B ∨ k = M ∨ (Value.slice LA sts.length lc).ownBlock = some k) w w6 := Kp.trans g5 (Kp.of_grown (grownBy_trans (grownBy_drew (grownBy_alloc (grownBy_refl w5 _) _)) hg6 (fun i e => .inl e)) (S := fun k => (Value.slice LA sts.length lc).ownBlock = some k) (fun k e => .inl e)) (fun i _ hi => .inr (.inr hi))
            have g7 := Kp.trans g6 (Kp.of_grown (grownBy_setCell (grownBy_refl w6 (some B)) B 0 (.slice (some ⟨q6, 0, none⟩) (sts.length + 1) c6) (.inl rfl)) (S := fun k => k = B) (fun k e => .inl (by cases e; rfl))) (fun i _ hi => .inl hi)
            have hlv : (Value.slice (some ⟨q6, 0, none⟩) (sts.length + 1) c6).ownBlock = (Value.slice LA sts.length lc).ownBlock ∨ ∀ k, (Value.slice (some ⟨q6, 0, none⟩) (sts.length + 1) c6).ownBlock = some k → w.heap.size ≤ k := by
              rcases hat6 with h | h
              · exact .inl h
              · refine .inr (fun k e => ?_)
                rw [h] at e; simp at e; have := g5.size; omega
            have hq6B : q6 ≠ B := by
              rcases hlv with e | e
              · intro e'; subst e'; exact hlB e.symm
              · intro e'; have := e q6 rfl; omega
            refine ⟨rfl, _, ?_, g7, hlv⟩
            refine Bd.more (s := (fin, es)) H.out hfew HN.out hn2 HT.out HS.out HO.out (find_not HF.out) hout g7 hlv (heap_setCell HB6.out 0 _) (ownsRow_kept hown6 (grownBy_setCell (grownBy_refl w6 (some B)) B 0 _ (.inl rfl)) (.inr (by intro e; simp [Value.ownBlock] at e; exact hq6B e))) ?_
            have hm6 := (HM5.out.kept (grownBy_drew (grownBy_alloc (grownBy_refl w5 none) _)) nofun).kept hg6 nlM
            rw [kv_append]
            exact hm6.kept (grownBy_setCell (grownBy_refl w6 (some B)) B 0 _ (.inl rfl)) (by intro e; cases e; exact nBM rfl)
end Go.Proofs.YtdcdhcgfhapbnaaDoor
