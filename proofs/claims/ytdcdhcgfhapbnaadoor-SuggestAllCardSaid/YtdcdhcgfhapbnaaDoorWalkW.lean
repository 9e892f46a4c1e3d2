/-
  Package walk: walk: the walk from the beginning on. Conditions: at most 1000 codes, numbers of at most a million.
-/
import Derived.Test.YtdcdhcgfhapbnaaDoorWalkO
import Derived.Laws.EntriesVeiled
namespace Go.Proofs.YtdcdhcgfhapbnaaDoor
open Go Go.RowKit Go.Maps

theorem on_walk : ∀ fuel, OnDoes fuel
  | 0 => by
    intro w0 pa pc pf po F base B M base0 lvb start sts CA n cc codes fx w state part most Mx last was before lastv wv lv WA wasc word f hg0 hbw cap wk hlast hlo hwas hwo hwl hwb hlb hM hst
    omega
  | k + 1 => on_step k (on_walk k)

/-- How far is far. -/
def mostS (m : Int) : Nat := (max 0 (min m 3)).toNat

def WalkRes (B n cc : Nat) (CA : Option Addr) (most : Nat) (fi : Fi) (w : World) (e : Ending) (w' : World) : Prop :=
  ∃ F base wv lv, e = .returned (.pointer (some ⟨F, 0, none⟩)) ∧ w.heap.size ≤ F ∧ Wk w' F base (.pointer (some ⟨B, 0, none⟩)) (.slice CA n cc) most wv lv [] fi ∧ w.heap.size ≤ base ∧ w.grownBy w' none

/-- Four blocks laid, one behind the other. -/
theorem laid4 (w : World) (o1 o2 o3 o4 : Obj) : ∃ w4, (((w.alloc o1).alloc o2).alloc o3).alloc o4 = w4 ∧ w.grownBy w4 none ∧ w4.heap[w.heap.size]? = some o1 ∧ w4.heap[w.heap.size + 1]? = some o2 ∧ w4.heap[w.heap.size + 1 + 1]? = some o3 ∧
    w4.heap[w.heap.size + 1 + 1 + 1]? = some o4 ∧ w4.heap.size = w.heap.size + 1 + 1 + 1 + 1 := by
  have g1 := World.grownBy_alloc w o1 none
  have g2 := World.grownBy_alloc (w.alloc o1) o2 none
  have g3 := World.grownBy_alloc ((w.alloc o1).alloc o2) o3 none
  have g4 := World.grownBy_alloc (((w.alloc o1).alloc o2).alloc o3) o4 none
  have h1 := heap_alloc_new w o1
  have h2 := heap_alloc_new (w.alloc o1) o2
  have h3 := heap_alloc_new ((w.alloc o1).alloc o2) o3
  have h4 := heap_alloc_new (((w.alloc o1).alloc o2).alloc o3) o4
  simp only [World.size_alloc] at h2 h3 h4
  refine ⟨_, rfl, grownBy_trans (grownBy_trans (grownBy_trans g1 g2 nofun) g3 nofun) g4 nofun, ?_, ?_, ?_, h4, by simp only [World.size_alloc]⟩
  · exact grownBy_heap (grownBy_trans (grownBy_trans g2 g3 nofun) g4 nofun) h1 nofun
  · exact grownBy_heap (grownBy_trans g3 g4 nofun) h2 nofun
  · exact grownBy_heap g4 h3 nofun

/-- The numbers from 0 to k. -/
def cellsTo (k : Nat) : List Value := natCells (List.range (k + 1))

/-- The row of the beginning, under way. -/
def FirstRel (w : World) (n : Nat) (rv kv : Value) (wr : World) : Prop :=
  ∃ k q rc : Nat, k ≤ n ∧ kv = .int .i64 (k : Int) ∧ rv = .slice (some ⟨q, 0, none⟩) (k + 1) rc ∧ wr.ownsRow w.heap.size 3 1 (.slice (some ⟨q, 0, none⟩) (k + 1) rc) (k + 1) (cellsTo k) ∧ w.grownBy wr none

set_option maxRecDepth 100000 in
set_option maxHeartbeats 2000000 in
theorem walk_walk (B M base0 : Nat) (lvb : Value) (start : Nat) (sts : List DSt) (CA : Option Addr) (n cc : Nat) (codes : List Int) (most : Int) (w : World)
    (hbd : Bd w (fun _ => False) B M base0 lvb (start : Int) sts) (hall : ∀ (i : Nat) (s : DSt), sts[i]? = some s → s.2.Pairwise (fun a b => a.1 < b.1) ∧ ∀ e ∈ s.2, e.2 < i)
    (hn : codes.length = n) (hn2 : n ≤ 1000) (hC : Sl w 1 CA n (intCells codes)) (hT : Lib.Utf8Tabs 0 1 w)
    (hst : start < sts.length + 1) (hsz : sts.length ≤ 900000)
    (hsteps : (walkS sts start codes (mostS most)).steps ≤ 1000000) (hlen : (walkS sts start codes (mostS most)).l.length ≤ 1000000) :
    Calls Tryd.prog 45 #[.pointer (some ⟨B, 0, none⟩), .slice CA n cc, .int .i64 most] w (WalkRes B n cc CA (mostS most) (walkS sts start codes (mostS most)) w) := by
  obtain ⟨i0, hi, hz0, hz1, hz2⟩ := info_parts int_info
  have hmin : ∀ (ts : Array TypeId) (t : TypeId) (w : World), (Builtin.min_ ts t #[.int .i64 most, .int .i64 3]).run Tryd.prog w = .ok (.int .i64 (min most 3)) w := by
    intro ts t w
    rw [run_min_int2]; congr 2; split <;> omega
  have hmax : ∀ (ts : Array TypeId) (t : TypeId) (w : World), (Builtin.max_ ts t #[.int .i64 0, .int .i64 (min most 3)]).run Tryd.prog w = .ok (.int .i64 (mostS most : Int)) w := by
    intro ts t w
    rw [run_max_int2]; congr 2; unfold mostS; split <;> omega
  have HBD := Lib.hid hbd
  have HALL := Lib.hid hall
  have HN := Lib.hid hn
  have HC := Lib.hid hC
  have HT := Lib.hid hT
  have HS := Lib.hid hsteps
  have HL := Lib.hid hlen
  clear hbd hall hn hC hT hsteps hlen
  go_enter Tryd.func45, Tryd.ntmps45
  go_upto_region 2 with (fail)
  obtain ⟨w4, e4, hg4, hh1, hh2, hh3, hh4, hs4⟩ := laid4 w (.cells #[.pointer (some ⟨B, 0, none⟩)] 25 (0, 0)) (.cells #[.slice CA n cc] 36 (0, 0))
    (.cells #[.pointer (some ⟨B, 0, none⟩), .slice CA n cc, .int .i64 (mostS most : Int), .slice none 0 0, .slice none 0 0, .int .i64 0] 87 (0, 0)) (.cells #[.pointer (some ⟨w.heap.size + 1 + 1, 0, none⟩)] 88 (0, 0))
  rw [e4]
  have k1 := cell_of_heap hh1 0
  have k2 := cell_of_heap hh2 0
  have k4 := cell_of_heap hh4 0
  have HG4 := Lib.hid hg4
  have HH1 := Lib.hid hh1
  have HH2 := Lib.hid hh2
  have HH3 := Lib.hid hh3
  have HH4 := Lib.hid hh4
  have HS4 := Lib.hid hs4
  clear e4 hg4 hh1 hh2 hh3 hh4 hs4
  generalize hb : w.heap.size = b at *
  have m2 := (World.grownBy_alloc w4 (.cells #[.int .i64 0] 3) none).cell k2 nofun
  go_wp2_with fail
  go_loopw [8, 21] (fun rv kv wr => FirstRel w4 n rv kv wr) (fun _ kv _ => n - (intOf kv).toNat)
  case atStart =>
    refine ⟨0, w4.heap.size, 1, Nat.zero_le _, rfl, rfl, ?_, World.grownBy_alloc _ _ none⟩
    exact World.ownsRow_lit (base := w4.heap.size) (size := 1) (e := 3) w4 #[.int .i64 0] 1 (Nat.le_refl _) (by decide) rfl
  case round =>
    obtain ⟨k, q, rc, hk, rfl, rfl, hown, hg⟩ := hrel
    rcases Nat.lt_or_ge k n with hlt | hge
    · have hX := World.grownBy_alloc wr (.cells #[.int .i64 ((k : Int) + 1)] 3) none
      have hwr := hg.size
      have hown2 := ownsRow_kept hown hX (own_none _)
      have hsl := Sl.of_own (World.ownsRow_lit (base := 0) (size := 1) (e := 3) wr #[.int .i64 ((k : Int) + 1)] 1 (Nat.zero_le _) (by decide) rfl) (by intro x hx; simp at hx; subst hx; rfl)
      have HO2 := Lib.hid hown2
      have HSL := Lib.hid hsl
      have HX := Lib.hid hX
      clear hown hown2 hsl hX
      go_wp2_with (at_builtin; refine wpList_append_sl _ rfl (.tmp 24) (.tmp 27) 36 rfl w4.heap.size 3 i0 _ 1 8 Tryd.underlying36 hi hz0 hz1 hz2 rfl (by decide) (.slice (some ⟨q, 0, none⟩) (k + 1) rc) (k + 1) _ rfl HO2.out (some ⟨wr.heap.size, 0, none⟩) 1 1 [.int .i64 ((k : Int) + 1)] rfl HSL.out (by unfold maxLen; omega) (by omega) (by simp; omega) ?_)
      rintro v' w' ⟨hown', hg', hat⟩
      obtain ⟨q', c', rfl, _⟩ := own_form hown' (by omega)
      have hgw : w4.grownBy w' none := grownBy_trans (grownBy_trans hg HX.out nofun) hg' (fun l hl => .inr (HO2.out.lt l hl).1)
      go_wp2_with fail
      go_roundw
      case rel =>
        refine ⟨k + 1, q', c', by omega, by go_num, rfl, ?_, hgw⟩
        have e2 : cellsTo (k + 1) = cellsTo k ++ [.int .i64 ((k : Int) + 1)] := by
          unfold cellsTo
          rw [List.range_succ (n := k + 1), natCells, natCells, List.map_append]; rfl
        rw [e2]; exact hown'
      case measure => simp [intOf]; omega
    · obtain rfl : k = n := by omega
      go_upto_region 10 with (fail)
      have hgx := World.grownBy_alloc wr (.cells #[.func (.func 66) #[] #[.pointer (some ⟨b, 0, none⟩), .pointer (some ⟨b + 1, 0, none⟩), .pointer (some ⟨b + 1 + 1 + 1, 0, none⟩), .pointer (some ⟨wr.heap.size, 0, none⟩)]] 124 (0, 0)) none
      have hho := heap_alloc_new wr (.cells #[.func (.func 66) #[] #[.pointer (some ⟨b, 0, none⟩), .pointer (some ⟨b + 1, 0, none⟩), .pointer (some ⟨b + 1 + 1 + 1, 0, none⟩), .pointer (some ⟨wr.heap.size, 0, none⟩)]] 124 (0, 0))
      have hsx : (wr.alloc (.cells #[.func (.func 66) #[] #[.pointer (some ⟨b, 0, none⟩), .pointer (some ⟨b + 1, 0, none⟩), .pointer (some ⟨b + 1 + 1 + 1, 0, none⟩), .pointer (some ⟨wr.heap.size, 0, none⟩)]] 124 (0, 0))).heap.size = wr.heap.size + 1 := by simp only [World.size_alloc]
      generalize hw5 : wr.alloc (.cells #[.func (.func 66) #[] #[.pointer (some ⟨b, 0, none⟩), .pointer (some ⟨b + 1, 0, none⟩), .pointer (some ⟨b + 1 + 1 + 1, 0, none⟩), .pointer (some ⟨wr.heap.size, 0, none⟩)]] 124 (0, 0)) = w5 at *
      clear hw5
      have hwr := hg.size
      have hg5 : w4.grownBy w5 none := grownBy_trans hg hgx nofun
      have hG5 : w.grownBy w5 none := grownBy_trans HG4.out hg5 nofun
      have hs4 := HS4.out
      have fx : Fx w b (b + 1) (b + 1 + 1 + 1) wr.heap.size (b + 1 + 1) w5.heap.size B M base0 lvb (start : Int) sts CA k cc codes :=
        ⟨HBD.out, HALL.out, HN.out, hn2, HC.out, HT.out, by omega, by omega, by omega, by omega⟩
      have cap5 : Cap w5 b (b + 1) (b + 1 + 1 + 1) wr.heap.size (b + 1 + 1) B CA k cc :=
        ⟨hg5.cell (cell_of_heap HH1.out 0) nofun, hg5.cell (cell_of_heap HH2.out 0) nofun, hg5.cell (cell_of_heap HH4.out 0) nofun, cell_of_heap hho 0⟩
      have wk5 : Wk w5 (b + 1 + 1) w5.heap.size (.pointer (some ⟨B, 0, none⟩)) (.slice CA k cc) (mostS most) (.slice none 0 0) (.slice none 0 0) [] ⟨[], 0⟩ :=
        ⟨grownBy_heap hg5 HH3.out nofun, World.ownsRow_nil _ _ _ _, World.ownsRow_nil _ _ _ _, .inl rfl, by omega⟩
      have hq : w4.heap.size ≤ q := (own_ge' hown rfl).1
      have hmut : ∀ l, Mut (b + 1 + 1) (.slice none 0 0) (.slice none 0 0) l → l = b + 1 + 1 := by
        rintro l (e | e | e)
        · exact e
        · cases e
        · cases e
      have hrow : Sl w5 1 (some ⟨q, 0, none⟩) (k + 1) (natCells (List.range (k + 1))) := (Sl.of_own hown (fun x hx => by obtain ⟨d, _, rfl⟩ := List.mem_map.1 hx; rfl)).kept hgx nofun
      have hgd := grownBy_drew (grownBy_refl w5 none)
      have hon := on_walk (sts.length + 1) w b (b + 1) (b + 1 + 1 + 1) wr.heap.size (b + 1 + 1) w5.heap.size B M base0 lvb (start : Int) sts CA k cc codes fx w5.drew start 0 (mostS most) k none (List.range (codes.length + 1)) 0
        (.slice none 0 0) (.slice none 0 0) (.slice none 0 0) (some ⟨q, 0, none⟩) rc [] ⟨[], 0⟩ (grownBy_drew hG5) (Nat.le_refl _) (cap5.kept (Kp.of_grown (S := fun _ => False) hgd nofun) ⟨id, id, id, id⟩) (wk5.kept hgd) (.inl ⟨rfl, rfl⟩) (fun A j c e l _ h0 => by cases e; omega)
        (by rw [HN.out]; exact hrow.kept hgd nofun) (fun l hl h0 a ha e => by cases ha; have h1 := hmut l hl; change q = l at e; omega) (by rw [List.length_range, HN.out])
        (fun j => by
          rcases Nat.lt_or_ge j (codes.length + 1) with h1 | h1
          · rw [List.getD_eq_getElem?_getD, List.getElem?_range h1]; have := HN.out; simp; omega
          · rw [List.getD_eq_getElem?_getD, List.getElem?_eq_none (by simpa using h1)]; exact Nat.zero_le _)
        nofun (by omega) hst (by simp; omega) (Nat.zero_le _) HS.out HL.out
      rw [show ((0 : Nat) : Int) = 0 from rfl] at hon
      have j1 := cap5.o
      have j2 := cap5.a
      have hstart := start_walk (fun _ => False) B M base0 lvb (start : Int) sts w5 (HBD.out.kept hG5)
      have hstartd := start_walk (fun _ => False) B M base0 lvb (start : Int) sts w5.drew (HBD.out.kept (grownBy_drew hG5))
      have HON := Lib.hid hon
      have HHO := Lib.hid hho
      have HG5 := Lib.hid hG5
      have hbw : b ≤ wr.heap.size := by omega
      have HMUT := Lib.hid hmut
      have HCAP := Lib.hid cap5
      have HSX := Lib.hid hsx
      clear hon hho hG5 fx cap5 wk5 hmut hrow hown hg hgx hg5
      go_wp2_with fail
      go_region_law (first
        | (go_simp; go_at_call 73; refine hstart.mono ?_; rintro e1 w1 ⟨rfl, rfl⟩)
        | (go_simp; go_at_call 73; refine hstartd.mono ?_; rintro e1 w1 ⟨rfl, rfl⟩)
        | (go_simp; go_at_call 66; refine HON.out.mono ?_; rintro e1 w1 ⟨wv1, lv1, rfl, hwk1, hkp1, hold1⟩))
      all_goals
        have j3 : w1.cell? ⟨b + 1 + 1 + 1, 0, none⟩ = some (.pointer (some ⟨b + 1 + 1, 0, none⟩)) :=
          hkp1.cell (show w5.drew.cell? ⟨b + 1 + 1 + 1, 0, none⟩ = _ from HCAP.out.f) (fun h => by have h1 : b + 1 + 1 + 1 = b + 1 + 1 := HMUT.out _ h; omega)
        have HWK1 := Lib.hid hwk1
        have HKP1 := Lib.hid hkp1
        clear hwk1 hkp1 hold1 j1 j2
        go_wp2_with fail
        go_ret
        refine ⟨b + 1 + 1, w5.heap.size, wv1, lv1, rfl, by omega, HWK1.out, by have := HSX.out; omega, kp_grown (grownBy_drew HG5.out) HKP1.out (fun i h => by have := HMUT.out i h; omega)⟩

/-- The offers of a walk, as they lie. -/
def OffersRes (l : List (Wd × Nat)) (w : World) (e : Ending) (w' : World) : Prop :=
  ∃ v, e = .returned v ∧ w'.ownsRow w.heap.size 41 2 v l.length (offCells l) ∧ w.grownBy w' none

theorem own_up {w : World} {a b : Nat} {e : TypeId} {size n : Nat} {v : Value} {xs : List Value} (h : w.ownsRow b e size v n xs) (hab : a ≤ b) : w.ownsRow a e size v n xs := by
  obtain ⟨h1, h2⟩ := h
  refine ⟨h1, ?_⟩
  rcases h2 with h2 | ⟨g, cap, cur, hv, hg, r⟩
  · exact .inl h2
  · exact .inr ⟨g, cap, cur, hv, by omega, r⟩

set_option maxRecDepth 100000 in
theorem Walk_walk (B M base0 : Nat) (lvb : Value) (start : Nat) (sts : List DSt) (CA : Option Addr) (n cc : Nat) (codes : List Int) (most : Int) (w : World)
    (hbd : Bd w (fun _ => False) B M base0 lvb (start : Int) sts) (hall : ∀ (i : Nat) (s : DSt), sts[i]? = some s → s.2.Pairwise (fun a b => a.1 < b.1) ∧ ∀ e ∈ s.2, e.2 < i)
    (hn : codes.length = n) (hn2 : n ≤ 1000) (hC : Sl w 1 CA n (intCells codes)) (hT : Lib.Utf8Tabs 0 1 w)
    (hst : start < sts.length + 1) (hsz : sts.length ≤ 900000)
    (hsteps : (walkS sts start codes (mostS most)).steps ≤ 1000000) (hlen : (walkS sts start codes (mostS most)).l.length ≤ 1000000) :
    Calls Tryd.prog 28 #[.pointer (some ⟨B, 0, none⟩), .slice CA n cc, .int .i64 most] w (OffersRes (walkS sts start codes (mostS most)).l w) := by
  have hw := Lib.hid (walk_walk B M base0 lvb start sts CA n cc codes most w hbd hall hn hn2 hC hT hst hsz hsteps hlen)
  clear hbd hall hn hC hT hsteps hlen
  go_enter Tryd.func28, Tryd.ntmps28
  go_wp2_with fail
  refine hw.out.mono ?_
  rintro e w1 ⟨F, base, wv, lv, rfl, hF, hwk, hb, hg⟩
  have c4 := cell_of_heap hwk.hF 4
  have HWK := Lib.hid hwk
  have HG := Lib.hid hg
  clear hwk hg hw
  go_wp2_with fail
  go_ret
  exact ⟨lv, rfl, own_up HWK.out.offers hb, HG.out⟩

end Go.Proofs.YtdcdhcgfhapbnaaDoor
