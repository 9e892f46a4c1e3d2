/-
  Rows turned round, in memory and as sets: the plain parts of ClosureNumbers. No conditions beyond those that each lemma names.
-/
import Derived.Test.YtlbbjcggjmaehaaDoorAll
import Derived.Deep.CutBlock
import Derived.Test.YtlbbjcggjmaehaaDoorWordL
import Derived.Test.YtlbbjcggjmaehaaDoorParse11
import Derived.Test.YtlbbjcggjmaehaaDoorAwake13
import Derived.Test.YtlbbjcggjmaehaaDoorParse12
namespace Go.Proofs.YtlbbjcggjmaehaaDoor
open Go Go.RowKit Go.Maps Go.Sort

theorem formsR_len (rules : List Ru) (e : En) : (formsR rules e).length ≤ 1 + rules.length + rules.length * rules.length := by
  unfold formsR
  rw [List.length_append, List.length_singleton]
  have := ones_len rules e rules
  rw [Nat.mul_add, Nat.mul_one] at this
  omega

theorem allR_len (rules : List Ru) : ∀ es : List En, (es.flatMap (formsR rules)).length ≤ es.length * (1 + rules.length + rules.length * rules.length)
  | [] => by simp
  | e :: es => by
    rw [List.flatMap_cons, List.length_append, List.length_cons, Nat.add_mul]
    have h1 := formsR_len rules e
    have h2 := allR_len rules es
    omega

theorem canon_snoc (l : List Wd) (s : Wd) : insU s (canon l) = canon (l ++ [s]) := by rw [canon_putAll, canon_putAll, putAll_snoc]

set_option maxRecDepth 100000 in
set_option maxHeartbeats 2000000 in
theorem rall13_walk (rules : List Ru) (A : Option Addr) (n cap : Nat) (es : List En) (B : Option Addr) (m mcap : Nat) (w : World) (hn : rules.length = n) (hb : n ≤ 900) (hr : RusAt w A rules) (hm : es.length = m) (he : EnsAt w B es)
    (hN : m * (1 + n + n * n) ≤ 20000) :
    Calls Tryd.prog 18 #[.slice A n cap, .slice B m mcap] w fun x w' => ∃ v, x = .returned (.tuple #[v, .int .i64 0]) ∧ HasWd w' v (canon (es.flatMap (formsR rules))) ∧ w.grownBy w' none := by
  have hm2 : m ≤ 20000 := Nat.le_trans (Nat.le_mul_of_pos_right m (by omega)) hN
  have hforms := fun (e : En) (u : World) (hu : w.grownBy u none) (he : EnAt u e) => rforms_walk rules A n cap e u hn hb (hr.kept hu) he
  have HF := Lib.hid hforms
  have HE := Lib.hid he
  have HM := Lib.hid hm
  have HN := Lib.hid hN
  have HRN := Lib.hid hn
  clear hforms he hm hr hN hn
  go_enter Tryd.func18, Tryd.ntmps18
  go_wp2_with fail
  go_loopw [6, 7] (fun mv iv wr => ∃ (i : Nat) (M : List Wd), i ≤ m ∧ iv = .int .i64 (i : Int) ∧ M = canon ((es.take i).flatMap (formsR rules)) ∧ HasWd wr mv M ∧ w.grownBy wr none) (fun _ iv _ => m - (RowKit.intOf iv).toNat)
  case atStart => exact ⟨0, [], Nat.zero_le _, rfl, by rw [canon_putAll]; rfl, ⟨none, 0, 0, rfl, rfl, Nat.le_refl _, Sl.nil _ _ _⟩, grownBy_refl _ none⟩
  case round =>
    obtain ⟨i, M, hi, rfl, hMe, ⟨MA, mn, mc, rfl, hMl, hmc, hMs⟩, hg⟩ := hrel
    have HMS := Lib.hid hMs
    have HML := Lib.hid hMl
    have HME := Lib.hid hMe
    have HGI := Lib.hid hg
    clear hMs hMl hMe hg
    rcases Nat.lt_or_ge i m with hlt | hge
    · have hlti : (i : Int) < (m : Int) := by omega
      obtain ⟨e, he⟩ : ∃ e, es[i]? = some e := ⟨_, List.getElem?_eq_getElem (by rw [HM.out]; exact hlt)⟩
      obtain ⟨q, o, eB, c0, c1⟩ := en_cell (HE.out.kept HGI.out) he
      have hen := (HE.out.kept HGI.out).2 e (List.mem_of_getElem? he)
      have htk : (es.take (i + 1)).flatMap (formsR rules) = (es.take i).flatMap (formsR rules) ++ formsR rules e := by rw [List.take_add_one, he]; simp
      subst eB
      have hf := HF.out e wr HGI.out hen
      obtain ⟨fs, hfs⟩ : ∃ l, putAll (formsR rules e) = l := ⟨_, rfl⟩
      have hfl : fs.length ≤ 1 + n + n * n := by rw [← hfs]; have := putAll_len (formsR rules e); have := formsR_len rules e; rw [HRN.out] at this; omega
      rw [hfs] at hf
      obtain ⟨word, F, fcap, flags⟩ := e
      dsimp only at c0 c1
      rw [show (⟨word, F, fcap, flags⟩ : En).val = .agg #[.string ⟨word.toArray⟩, .slice F flags.length fcap] from rfl] at hf
      obtain ⟨fl, hfl0⟩ : ∃ x, flags.length = x := ⟨_, rfl⟩
      rw [hfl0] at c1 hf
      have HTK := Lib.hid htk
      have HFS := Lib.hid hfs
      clear htk hen he hfl0 hfs
      obtain ⟨wo, hwo⟩ : ∃ wo, wo = wr := ⟨_, rfl⟩
      subst hwo
      go_wp2_with fail
      refine hf.mono ?_
      rintro x w1 ⟨v, rfl, ⟨FA, fn, fc, rfl, hFl, hfc, hFs⟩, hg1⟩
      have HFW := Lib.hid hFs
      have HFN := Lib.hid hFl
      have HG1 := Lib.hid (grownBy_trans HGI.out hg1 nofun)
      have HM1 := Lib.hid (HMS.out.kept hg1 nofun)
      have hfn : fn ≤ 1 + n + n * n := by omega
      have hfb : fn ≤ 1000000 := by have h5 : n * n ≤ 900 * 900 := Nat.mul_le_mul hb hb; omega
      clear hf hFs hFl hg1 c0 c1
      go_wp2_with fail
      go_loopw [6, 9] (fun mv kv wr => ∃ (k : Nat) (M : List Wd), k ≤ fn ∧ kv = .int .i64 (k : Int) ∧ M = canon ((es.take i).flatMap (formsR rules) ++ fs.take k) ∧ HasWd wr mv M ∧ w.grownBy wr none ∧ w1.grownBy wr none) (fun _ kv _ => fn - (RowKit.intOf kv).toNat)
      case atStart => exact ⟨0, M, Nat.zero_le _, rfl, by rw [HME.out]; simp, ⟨MA, mn, mc, rfl, HML.out, hmc, HM1.out⟩, HG1.out, grownBy_refl _ none⟩
      case round =>
        obtain ⟨k, M2, hk, rfl, hMe, ⟨MA2, mn2, mc2, rfl, hMl, hmc2, hMs⟩, hg, hg2⟩ := hrel
        have HMS2 := Lib.hid hMs
        have HML2 := Lib.hid hMl
        have HME2 := Lib.hid hMe
        have HGK := Lib.hid hg
        have HGK2 := Lib.hid hg2
        clear hMs hMl hMe hg hg2
        have hmb : mn2 ≤ 1000000 := by
          rw [← HML2.out, HME2.out]
          have h1 := canon_len ((es.take i).flatMap (formsR rules) ++ fs.take k)
          rw [List.length_append, List.length_take] at h1
          have h2 := allR_len rules (es.take i)
          have h3 : (es.take i).length * (1 + rules.length + rules.length * rules.length) ≤ m * (1 + n + n * n) := by
            rw [HRN.out]
            exact Nat.mul_le_mul_right _ (by rw [List.length_take, HM.out]; omega)
          have h4 := HN.out
          have h5 : n * n ≤ 900 * 900 := Nat.mul_le_mul hb hb
          omega
        rcases Nat.lt_or_ge k fn with hkl | hkl
        · have hkli : (k : Int) < (fn : Int) := by omega
          obtain ⟨x, hx⟩ : ∃ x, fs[k]? = some x := ⟨_, List.getElem?_eq_getElem (by rw [HFN.out]; exact hkl)⟩
          obtain ⟨q2, o2, eF, hc⟩ := (HFW.out.kept HGK2.out nofun).2.2 (by omega)
          subst eF
          have cx : wr.cell? ⟨q2, o2 + k, none⟩ = some (.string ⟨x.toArray⟩) := hc k _ (by rw [strCells, List.getElem?_map, hx]; rfl)
          have htk2 : fs.take (k + 1) = fs.take k ++ [x] := by rw [List.take_add_one, hx]; rfl
          have HTK2 := Lib.hid htk2
          clear hc hx htk2
          go_wp2_with fail
          refine (put_walk M2 x MA2 mn2 mc2 _ HML2.out hmc2 hmb HMS2.out).mono ?_
          rintro x2 w2 ⟨A', n', c', rfl, hl', hc', hs', hg'⟩
          have e2 : insU x M2 = canon ((es.take i).flatMap (formsR rules) ++ fs.take (k + 1)) := by rw [HME2.out, canon_snoc, HTK2.out, List.append_assoc]
          have HH := Lib.hid (show HasWd w2 (.slice A' n' c') (insU x M2) from ⟨A', n', c', rfl, hl', hc', hs'⟩)
          have HE2 := Lib.hid e2
          have HGA := Lib.hid (grownBy_trans HGK.out hg' nofun)
          have HGB := Lib.hid (grownBy_trans HGK2.out hg' nofun)
          clear hl' hs' hg' e2 cx
          go_wp2_with fail
          go_roundw
          case rel => exact ⟨k + 1, insU x M2, by omega, by go_num, HE2.out, HH.out, HGA.out, HGB.out⟩
          case measure => simp [RowKit.intOf]; omega
        · have ek : k = fn := by omega
          subst ek
          have hnl : ¬ (k : Int) < (k : Int) := by omega
          have e3 : M2 = canon ((es.take (i + 1)).flatMap (formsR rules)) := by
            rw [HME2.out, ← HFN.out, List.take_length, HTK.out]
            refine canon_congr fun y => ?_
            rw [List.mem_append, List.mem_append, ← HFS.out, ← canon_putAll, mem_canon]
          have HE3 := Lib.hid e3
          clear e3
          go_wp2_with fail
          go_roundw
          case rel => exact ⟨i + 1, M2, by omega, by go_num, HE3.out, ⟨MA2, mn2, mc2, rfl, HML2.out, hmc2, HMS2.out⟩, HGK.out⟩
          case measure => simp [RowKit.intOf]; omega
    · have ei : i = m := by omega
      subst ei
      have hnl : ¬ (i : Int) < (i : Int) := by omega
      have e3 := HME.out
      rw [← HM.out, List.take_length] at e3
      have hmb : mn ≤ 20000 := by
        rw [← HML.out, e3]
        have h1 := canon_len (es.flatMap (formsR rules))
        have h2 := allR_len rules es
        rw [HRN.out, HM.out] at h2
        have := HN.out
        omega
      have hmi : ¬ (20000 : Int) < (mn : Int) := by omega
      have HE3 := Lib.hid e3
      clear e3
      go_wp2_with fail
      go_ret2
      refine ⟨_, rfl, ?_, HGI.out⟩
      rw [← HE3.out]
      exact ⟨MA, mn, mc, rfl, HML.out, hmc, HMS.out⟩
end Go.Proofs.YtlbbjcggjmaehaaDoor

namespace Go.Proofs.YtlbbjcggjmaehaaDoor
open Go Go.RowKit Go.Maps

/-- A file that is read, with a rule at least. -/
def goodAff (s : Wd) : Bool := match fold11 (linesF s []) ([], []) with | some r => ok11 r && decide (1 ≤ r.2.length) | none => false

theorem goodAff_spec {s : Wd} (h : goodAff s = true) : ∃ r, fold11 (linesF s []) ([], []) = some r ∧ ok11 r = true ∧ 1 ≤ r.2.length := by
  unfold goodAff at h
  split at h
  · rename_i r hr
    rw [Bool.and_eq_true] at h
    exact ⟨r, hr, h.1, of_decide_eq_true h.2⟩
  · cases h

def AffRes (w : World) (e : Ending) (w' : World) : Prop := ∃ s : Wd, e = .returned (.string ⟨s.toArray⟩) ∧ s.count 10 ≤ 9 ∧ s.length ≤ 1000 ∧ goodAff s = true ∧ w.grownBy w' none

theorem AffRes.of {w w' : World} {S : ByteArray} (h1 : cnt S ≤ 9) (h2 : S.size ≤ 1000) (h3 : goodAff S.data.toList = true) (hg : w.grownBy w' none) : AffRes w (.returned (.string S)) w' :=
  ⟨S.data.toList, by rw [Array.toArray_toList], h1, by rw [Array.length_toList]; exact h2, h3, hg⟩

set_option maxRecDepth 100000 in
set_option maxHeartbeats 1000000 in
theorem affix_walk (v : Int) (w : World) : Calls Tryd.prog 14 #[.int .i64 v] w (AffRes w) := by
  obtain ⟨k, hk⟩ : ∃ k : Nat, v % 1048576 = k := ⟨(v % 1048576).toNat, by omega⟩
  have HK := Lib.hid hk
  clear hk
  obtain ⟨e2, he2⟩ : ∃ x, ((k : Int) % 2 == 0) = x := ⟨_, rfl⟩
  obtain ⟨e3, he3⟩ : ∃ x, ((k : Int) % 3 == 0) = x := ⟨_, rfl⟩
  obtain ⟨e5, he5⟩ : ∃ x, ((k : Int) % 5 == 0) = x := ⟨_, rfl⟩
  go_enter Tryd.func14, Tryd.ntmps14
  go_wp2_with fail
  refine (place_any v 1048576 w (by omega) (by omega)).mono ?_
  rintro e w' ⟨rfl, rfl⟩
  rw [HK.out]
  cases e2 <;> cases e3 <;> cases e5
  all_goals
    go_wp2_with fail
    go_ret
    exact AffRes.of (by decide +kernel) (by decide +kernel) (by decide +kernel) (grownBy_refl _ none)

end Go.Proofs.YtlbbjcggjmaehaaDoor

namespace Go.Proofs.YtlbbjcggjmaehaaDoor
open Go Go.RowKit Go.Maps Go.Sort

theorem flat_drop {α : Type} {f : α → List Value} {k : Nat} (hf : ∀ a, (f a).length = k) : ∀ (l : List α) (j : Nat), (l.flatMap f).drop (j * k) = (l.drop j).flatMap f
  | [], j => by simp
  | a :: l, 0 => by simp
  | a :: l, j + 1 => by
    rw [List.flatMap_cons, show (j + 1) * k = (f a).length + j * k by rw [hf, Nat.add_mul]; omega, ← List.drop_drop, List.drop_left', List.drop_succ_cons]
    · exact flat_drop hf l j
    · rfl

theorem flat_take {α : Type} {f : α → List Value} {k : Nat} (hf : ∀ a, (f a).length = k) : ∀ (l : List α) (j : Nat), (l.flatMap f).take (j * k) = (l.take j).flatMap f
  | [], j => by simp
  | a :: l, 0 => by simp
  | a :: l, j + 1 => by
    rw [List.flatMap_cons, show (j + 1) * k = (f a).length + j * k by rw [hf, Nat.add_mul]; omega, List.take_length_add_append, List.take_succ_cons, List.flatMap_cons, flat_take hf l j]

/-- A cut at the beginning. -/
theorem Sl.drop {w : World} {size : Nat} {A : Option Addr} {n : Nat} {cs : List Value} (h : Sl w size A n cs) {k : Nat} (hk : k ≤ n) {A' : Option Addr} (hA : ∀ b o, k < n → A = some ⟨b, o, none⟩ → A' = some ⟨b, o + k * size, none⟩) : Sl w size A' (n - k) (cs.drop (k * size)) := by
  refine ⟨by rw [List.length_drop, h.1, Nat.sub_mul], fun x hx => h.2.1 x (List.mem_of_mem_drop hx), fun h0 => ?_⟩
  obtain ⟨b, o, e, hc⟩ := h.2.2 (by omega)
  refine ⟨b, o + k * size, hA b o (by omega) e, fun j u hu => ?_⟩
  rw [Nat.add_assoc]
  exact hc (k * size + j) u (by rw [← hu, List.getElem?_drop])

section
variable {P : Program} {ol : List Oper} {Q : Exit → Act → World → Prop} {S : World → Prop}
theorem hw_takeL (i : Nat) {oi : Oper} {v : Value} {f : Nat} {l : Array Bool} {a : Act} {w : World} (hi : ol[i]? = some oi) (hs : Region.noSelect ol.toArray = true)
    (hf : Region.free .any ol.toArray l i = true) (hr : (Region.ready .any ol.toArray l).contains i = true)
    (hQ : ∀ c a w, Q (.panic c) (a.put oi.dst v) w → Q (.panic c) a w) (hw : Region.wanted oi (yielded ol.toArray a.tmps) = true) (hy : ∀ u, S u → (execOp a.eval oi).run P u = .ok (.value v) u) (hS : S w)
    (h : HW P ol.toArray Q S f (l.setIfInBounds i true) (a.put oi.dst v) w) : HW P ol.toArray Q S (f + 1) l a w :=
  hw_take i (by rw [List.getElem?_toArray]; exact hi) hs hf hr hQ hw hy hS h

theorem hw_oneL (i : Nat) {o : Oper} {f : Nat} {l : Array Bool} {a : Act} {w : World} (hr : Region.ready .any ol.toArray l = [i]) (ho : ol[i]? = some o)
    (h : ∀ K' : Act → World → Prop, Shut (∀ a w, S w → (S w → HW P ol.toArray Q S f (l.setIfInBounds i true) a w) → K' a w) → if Region.wanted o (yielded ol.toArray a.tmps) = true then Oper.wp P o a w K' Q else K' (a.put o.dst undef) w) :
    HW P ol.toArray Q S (f + 1) l a w := hw_one i hr (by rw [List.getElem?_toArray]; exact ho) h
end

/-- The same, turned round. -/
def turned {α : Type} (l : List α) (j : Nat) : List α := l.drop j ++ l.take j

theorem turned_len {α : Type} {l : List α} {n j : Nat} (h : l.length = n) (hj : j ≤ n) : (turned l j).length = n := by
  unfold turned
  rw [List.length_append, List.length_drop, List.length_take, h]; omega

theorem mem_turned {α : Type} {l : List α} {j : Nat} {x : α} : x ∈ turned l j ↔ x ∈ l := by
  unfold turned
  constructor
  · intro h
    rcases List.mem_append.1 h with h | h
    · exact List.mem_of_mem_drop h
    · exact List.mem_of_mem_take h
  · intro h
    rw [← List.take_append_drop j l] at h
    rcases List.mem_append.1 h with h | h
    · exact List.mem_append.2 (.inr h)
    · exact List.mem_append.2 (.inl h)

theorem forms_turned (rules : List Ru) (j : Nat) (e : En) (s : Wd) : s ∈ formsQ (turned rules j) e ↔ s ∈ formsQ rules e := by
  unfold formsQ
  simp only [List.mem_append, List.mem_flatMap, List.mem_filter, mem_turned]

theorem all_turned (rules : List Ru) (es : List En) (j k : Nat) : canon ((turned es k).flatMap (formsQ (turned rules j))) = canon (es.flatMap (formsQ rules)) :=
  canon_congr fun s => by simp only [List.mem_flatMap, mem_turned, forms_turned]

theorem all_ref (rules : List Ru) (es : List En) : canon (es.flatMap (formsR rules)) = canon (es.flatMap (formsQ rules)) :=
  canon_congr fun s => by simp only [List.mem_flatMap, forms_same]

theorem ru_len : ∀ r : Ru, r.row.length = 6 := fun _ => rfl
theorem en_len : ∀ e : En, e.row.length = 2 := fun _ => rfl

/-- What two appends leave of rules that are turned round. -/
theorem rus_turned {u : World} {base n j : Nat} {v : Value} {rules : List Ru} (hn : rules.length = n) (hj : j ≤ n) (h : u.ownsRow base 51 6 v (0 + (n - j) + j) (([] ++ ruCells (rules.drop j)) ++ ruCells (rules.take j))) (hr : ∀ r ∈ rules, RuAt u r) :
    ∃ A c, v = .slice A n c ∧ RusAt u A (turned rules j) := by
  have e1 : 0 + (n - j) + j = n := by omega
  have e2 : ([] ++ ruCells (rules.drop j)) ++ ruCells (rules.take j) = ruCells (turned rules j) := by unfold turned ruCells; simp
  rw [e1, e2] at h
  obtain ⟨A, c, rfl, _⟩ := own_slice2 h
  have := Sl.of_own h (ruCells_one2 _)
  refine ⟨A, c, rfl, by rw [turned_len hn hj]; exact this, fun r hr2 => hr r (mem_turned.1 hr2)⟩

theorem ens_turned {u : World} {base n j : Nat} {v : Value} {es : List En} (hn : es.length = n) (hj : j ≤ n) (h : u.ownsRow base 25 2 v (0 + (n - j) + j) (([] ++ enCells (es.drop j)) ++ enCells (es.take j))) (hr : ∀ r ∈ es, EnAt u r) :
    ∃ A c, v = .slice A n c ∧ EnsAt u A (turned es j) := by
  have e1 : 0 + (n - j) + j = n := by omega
  have e2 : ([] ++ enCells (es.drop j)) ++ enCells (es.take j) = enCells (turned es j) := by unfold turned enCells; simp
  rw [e1, e2] at h
  obtain ⟨A, c, rfl, _⟩ := own_slice2 h
  have := Sl.of_own h (enCells_one _)
  refine ⟨A, c, rfl, by rw [turned_len hn hj]; exact this, fun r hr2 => hr r (mem_turned.1 hr2)⟩

theorem ens_copy {u : World} {base n : Nat} {v : Value} {es : List En} (hn : es.length = n) (h : u.ownsRow base 25 2 v (0 + n) ([] ++ enCells es)) (hr : ∀ r ∈ es, EnAt u r) :
    ∃ A c, v = .slice A n c ∧ EnsAt u A es := by
  rw [Nat.zero_add, List.nil_append] at h
  obtain ⟨A, c, rfl, _⟩ := own_slice2 h
  have := Sl.of_own h (enCells_one _)
  exact ⟨A, c, rfl, by rw [hn]; exact this, hr⟩
end Go.Proofs.YtlbbjcggjmaehaaDoor

namespace Go.Proofs.YtlbbjcggjmaehaaDoor
open Go Go.RowKit Go.Maps Go.Sort

set_option maxRecDepth 100000 in
set_option maxHeartbeats 4000000 in
theorem numbers13_walk (v : Int) (zs : List Int) (A : Option Addr) (n ca : Nat) (turn : Int) (w : World) (hn : zs.length = n) (hA : Sl w 1 A n (intCells zs))
    (hT : Lib.Utf8Tabs 0 1 w) : Calls Tryd.prog 4 #[.int .i64 v, .slice A n ca, .int .i64 turn] w (TrueRes w) := by
  obtain ⟨i0, hi, hz0, hz1, hz2⟩ := info_parts ru_info
  obtain ⟨j0, hj, hy0, hy1, hy2⟩ := info_parts entry_info
  have HA := Lib.hid hA
  have HN := Lib.hid hn
  have HT := Lib.hid hT
  clear hA hn hT
  go_enter Tryd.func4, Tryd.ntmps4
  go_wp2_with fail
  refine (affix_walk v w).mono ?_
  rintro e w1 ⟨s1, rfl, hs1, hs2, hs3, hg1⟩
  obtain ⟨r0, hr1, hr2, hr3⟩ := goodAff_spec hs3
  have HG1 := Lib.hid hg1
  clear hs3 hg1
  go_wp2_with fail
  refine (parse11_walk s1 w1 (by omega)).mono ?_
  rintro e w2 ⟨hg2, A1, B1, n1, c1, m1, d1, rules, line1, err1, rfl, hrl, hrk, hrc, hrus, hex⟩
  have hn1 : 1 ≤ n1 := by rw [hex (by omega) r0 hr1 hr2]; exact hr3
  have hn10 : n1 ≤ 10 := by omega
  have HRL := Lib.hid hrl
  have HG2 := Lib.hid (grownBy_trans HG1.out hg2 nofun)
  have hbk := heap_alloc_new w2 (.cells #[.slice A1 n1 c1, .slice B1 m1 d1] 34 (0, 0))
  have hal := World.grownBy_alloc w2 (.cells #[.slice A1 n1 c1, .slice B1 m1 d1] 34) none
  have HBK := Lib.hid hbk
  have HRU := Lib.hid (hrus.kept hal)
  have HG3 := Lib.hid (grownBy_trans HG2.out hal nofun)
  have HAL := Lib.hid (HA.out.kept HG3.out nofun)
  clear hrl hrk hrus hex hg2 hbk hal hr1 hr2 hr3 hs1 hs2
  go_wp2_with fail
  refine (list_walk zs A n ca _ HN.out HAL.out).mono ?_
  rintro e w3 ⟨s2, rfl, hs3, hs4, hg3⟩
  have HG4 := Lib.hid hg3
  have HS3 := Lib.hid hs3
  clear hg3 hs3
  go_wp2_with fail
  refine (parse12_walk s2 w3 (by omega)).mono ?_
  rintro e w4 ⟨hg5, M, mn, mc, es, line2, err2, rfl, hel, hek, hec, hens⟩
  have hmn : mn ≤ 31 := by have := HS3.out; omega
  have HEL := Lib.hid hel
  have HEN := Lib.hid hens
  have hgx := grownBy_trans HG4.out hg5 nofun
  have HRU4 := Lib.hid (HRU.out.kept hgx)
  have HB4 := Lib.hid (grownBy_heap hgx HBK.out nofun)
  have HW4 := Lib.hid (grownBy_trans HG3.out hgx nofun)
  obtain ⟨K7, hK7⟩ : ∃ K, w2.heap.size = K := ⟨_, rfl⟩
  have hb4 := HB4.out
  rw [hK7] at hb4
  have HB4 := Lib.hid hb4
  clear hel hek hens hg5 hgx HBK HRU hb4
  go_upto_region 3 with (fail)
  try rw [hK7]
  clear hK7
  have c0 := cell_of_heap HB4.out 0
  have C0 := Lib.hid c0
  have gd : w4.grownBy w4.drew none := grownBy_drew (grownBy_refl w4 none)
  have GD := Lib.hid gd
  have hmul : mn * (1 + n1 + n1 * n1) ≤ 20000 := Nat.le_trans (Nat.mul_le_mul hmn (Nat.add_le_add (Nat.add_le_add_left hn10 1) (Nat.mul_le_mul hn10 hn10))) (by decide)
  obtain ⟨L, hL⟩ : ∃ L, canon (es.flatMap (formsQ rules)) = L := ⟨_, rfl⟩
  have hLl : L.length ≤ 20000 := by
    rw [← hL]
    have h1 := canon_len (es.flatMap (formsQ rules))
    have h2 := allQ_len rules es
    rw [HRL.out, HEL.out] at h2
    omega
  obtain ⟨nL, hnL⟩ : ∃ nL, L.length = nL := ⟨_, rfl⟩
  have HLE := Lib.hid hL
  have HNL := Lib.hid hnL
  rw [hnL] at hLl
  clear gd hL hnL c0
  refine region_hw (fun u => w4.grownBy u none) (by kernel_rfl) GD.out (fun hHeld => ?_)
  refine hw_takeL 0 (v := ?_) rfl (by kernel_rfl) (by kernel_rfl) (by kernel_rfl) (fun _ _ _ h => h) (by rfl) (fun u hu => ?_) (by assumption) ?_
  rotate_left
  focus ((try dsimp only at hu); have u0 := hu.cell C0.out nofun; go_simp; (try with_reducible rfl); done)
  try simp only [Act.put, List.setIfInBounds_toArray, List.set_cons_zero, List.set_cons_succ]
  refine hw_takeL 1 (v := ?_) rfl (by kernel_rfl) (by kernel_rfl) (by kernel_rfl) (fun _ _ _ h => h) (by rfl) (fun u hu => ?_) (by assumption) ?_
  rotate_left
  focus ((try dsimp only at hu); have u0 := hu.cell C0.out nofun; go_simp; (try with_reducible rfl); done)
  try simp only [Act.put, List.setIfInBounds_toArray, List.set_cons_zero, List.set_cons_succ]
  refine hw_takeL 2 (v := ?_) rfl (by kernel_rfl) (by kernel_rfl) (by kernel_rfl) (fun _ _ _ h => h) (by rfl) (fun u hu => ?_) (by assumption) ?_
  rotate_left
  focus ((try dsimp only at hu); have u0 := hu.cell C0.out nofun; go_simp; (try with_reducible rfl); done)
  try simp only [Act.put, List.setIfInBounds_toArray, List.set_cons_zero, List.set_cons_succ]
  have hsl := HEN.out.1.kept GD.out nofun
  rw [HEL.out] at hsl
  refine hw_oneL 3 (by kernel_rfl) rfl (fun K hK => ?_)
  refine step_append_sl _ (by rfl) _ _ 39 (by rfl) w4.heap.size 25 j0 _ 2 40 Tryd.underlying39 hj hy0 hy1 hy2 rfl (by decide) (.slice none 0 0) 0 [] (by rfl) (World.ownsRow_nil _ _ _ _) M mn mc _ (by rfl) hsl (by unfold maxLen; omega) (by omega) (Nat.le_refl _) ?_
  intro v5 w5 hap
  have hg5 := grownBy_trans GD.out hap.2.1 nofun
  obtain ⟨E1, ec1, rfl, hens5⟩ := ens_copy HEL.out hap.1 (fun r hr => (HEN.out.2 r hr).kept hg5)
  have G5 := Lib.hid hg5
  have HEN5 := Lib.hid hens5
  clear hap hg5 hens5 hsl
  refine hK.out _ _ (by exact G5.out) (fun hHeld3 => ?_)
  clear hK K
  try simp only [Act.put, List.setIfInBounds_toArray, List.set_cons_zero, List.set_cons_succ]
  refine hw_oneL 4 (by kernel_rfl) rfl (fun K hK => ?_)
  go_simp
  go_at_call 17
  refine (all13_walk rules A1 n1 c1 es E1 mn ec1 w5 HRL.out (by omega) (HRU4.out.kept G5.out) HEL.out HEN5.out hmul (tabs_kept HT.out (grownBy_trans HW4.out G5.out nofun))).mono ?_
  rintro e w6 ⟨vx, rfl, ⟨X, xc, rfl, hox⟩, hg6⟩
  rw [HLE.out, HNL.out] at hox ⊢
  have G6 := Lib.hid (grownBy_trans G5.out hg6 nofun)
  have HX6 := Lib.hid (Sl.of_own hox (strCells_one' _))
  clear hox hg6
  try go_simp
  refine hK.out _ _ (by exact G6.out) (fun hHeld4 => ?_)
  clear hK K
  try simp only [Act.put, List.setIfInBounds_toArray, List.set_cons_zero, List.set_cons_succ]
  refine hw_takeL 5 (v := ?_) rfl (by kernel_rfl) (by kernel_rfl) (by kernel_rfl) (fun _ _ _ h => h) (by rfl) (fun u hu => ?_) (by assumption) ?_
  rotate_left
  focus ((try dsimp only at hu); go_simp; (try with_reducible rfl); done)
  try simp only [Act.put, List.setIfInBounds_toArray, List.set_cons_zero, List.set_cons_succ]
  refine hw_takeL 6 (v := ?_) rfl (by kernel_rfl) (by kernel_rfl) (by kernel_rfl) (fun _ _ _ h => h) (by rfl) (fun u hu => ?_) (by assumption) ?_
  rotate_left
  focus ((try dsimp only at hu); go_simp; (try with_reducible rfl); done)
  try simp only [Act.put, List.setIfInBounds_toArray, List.set_cons_zero, List.set_cons_succ]
  refine hw_takeL 7 (v := ?_) rfl (by kernel_rfl) (by kernel_rfl) (by kernel_rfl) (fun _ _ _ h => h) (by rfl) (fun u hu => ?_) (by assumption) ?_
  rotate_left
  focus ((try dsimp only at hu); go_simp; (try with_reducible rfl); done)
  try simp only [Act.put, List.setIfInBounds_toArray, List.set_cons_zero, List.set_cons_succ]
  refine hw_oneL 8 (by kernel_rfl) rfl (fun K hK => ?_)
  go_simp
  refine hK.out _ _ (by exact G6.out) (fun hHeld8 => ?_)
  clear hK K
  try simp only [Act.put, List.setIfInBounds_toArray, List.set_cons_zero, List.set_cons_succ]
  refine hw_oneL 9 (by kernel_rfl) rfl (fun K hK => ?_)
  go_simp
  refine hK.out _ _ (by exact G6.out) (fun hHeld9 => ?_)
  clear hK K
  try simp only [Act.put, List.setIfInBounds_toArray, List.set_cons_zero, List.set_cons_succ]
  refine hw_done (by kernel_rfl) ?_
  have c0 := G6.out.cell C0.out nofun
  go_wp2_with fail
  refine (rall13_walk rules A1 n1 c1 es M mn mc w6 HRL.out (by omega) (HRU4.out.kept G6.out) HEL.out (HEN.out.kept G6.out) hmul).mono ?_
  rintro e w7 ⟨vy, rfl, ⟨Y, ny, yc, rfl, hyl, hyc, hys⟩, hg7⟩
  rw [all_ref, HLE.out] at hyl hys
  have hny : ny = nL := hyl.symm.trans HNL.out
  subst hny
  have G7 := Lib.hid (grownBy_trans G6.out hg7 nofun)
  have HY7 := Lib.hid hys
  have HX7 := Lib.hid (HX6.out.kept hg7 nofun)
  have c0 := G7.out.cell C0.out nofun
  clear hyl hys hg7
  go_wp2_with fail
  refine (place_any turn (n1 : Int) w7 (by omega) (by omega)).mono ?_
  rintro e w8 ⟨rfl, rfl⟩
  obtain ⟨j, hjn, hj1⟩ : ∃ j : Nat, turn % (n1 : Int) = j ∧ j < n1 := ⟨(turn % (n1 : Int)).toNat, by have := Int.emod_nonneg turn (show (n1 : Int) ≠ 0 by omega); omega, by have := Int.emod_lt_of_pos turn (show (0 : Int) < n1 by omega); have := Int.emod_nonneg turn (show (n1 : Int) ≠ 0 by omega); omega⟩
  rw [hjn]
  clear hjn
  go_upto_if 57 with (fail)
  go_cut [17] (fun kv wx => ∃ k : Nat, k ≤ mn ∧ kv = .int .i64 (k : Int) ∧ wx = w7)
  case first =>
    rcases Nat.eq_zero_or_pos mn with h0 | h0
    · subst h0
      go_wp2_with fail
      go_meet
      exact ⟨0, by omega, rfl, rfl⟩
    · have h0i : (0 : Int) < (mn : Int) := by omega
      go_wp2_with fail
      refine (place_any turn (mn : Int) w7 (by omega) (by omega)).mono ?_
      rintro e w8 ⟨rfl, rfl⟩
      obtain ⟨k, hkn, hk1⟩ : ∃ k : Nat, turn % (mn : Int) = k ∧ k < mn := ⟨(turn % (mn : Int)).toNat, by have := Int.emod_nonneg turn (show (mn : Int) ≠ 0 by omega); omega, by have := Int.emod_lt_of_pos turn (show (0 : Int) < mn by omega); have := Int.emod_nonneg turn (show (mn : Int) ≠ 0 by omega); omega⟩
      rw [hkn]
      clear hkn
      go_wp2_with fail
      go_meet
      exact ⟨k, by omega, rfl, rfl⟩
  case rest =>
    obtain ⟨k, hkm, rfl, ewc⟩ := hcut
    have ewc := ewc.symm
    subst ewc
    have HC7 := Lib.hid (G7.out.cell C0.out nofun)
    have GD7 := Lib.hid (show w7.grownBy w7.drew none from grownBy_drew (grownBy_refl w7 none))
    have HRU7 := Lib.hid (HRU4.out.kept G7.out)
    have HEN7 := Lib.hid (HEN.out.kept G7.out)
    have hjr : (j : Int) ≤ (n1 : Int) := by omega
    have hjc : (j : Int) ≤ (c1 : Int) := by omega
    have hkr : (k : Int) ≤ (mn : Int) := by omega
    have hkc : (k : Int) ≤ (mc : Int) := by omega
    obtain ⟨rq, ro, eA, hrc0⟩ := HRU7.out.1.2.2 (by rw [HRL.out]; omega)
    subst eA
    clear hrc0 c0
    go_upto_region 8 with (fail)
    refine region_hw (fun u => w7.grownBy u none) (by kernel_rfl) GD7.out (fun hHeld => ?_)
    refine hw_takeL 0 (v := ?_) rfl (by kernel_rfl) (by kernel_rfl) (by kernel_rfl) (fun _ _ _ h => h) (by rfl) (fun u hu => ?_) (by assumption) ?_
    rotate_left
    focus ((try dsimp only at hu); have u0 := hu.cell HC7.out nofun; go_simp; (try with_reducible rfl); done)
    try simp only [Act.put, List.setIfInBounds_toArray, List.set_cons_zero, List.set_cons_succ]
    refine hw_takeL 1 (v := ?_) rfl (by kernel_rfl) (by kernel_rfl) (by kernel_rfl) (fun _ _ _ h => h) (by rfl) (fun u hu => ?_) (by assumption) ?_
    rotate_left
    focus ((try dsimp only at hu); have u0 := hu.cell HC7.out nofun; go_simp; (try with_reducible rfl); done)
    try simp only [Act.put, List.setIfInBounds_toArray, List.set_cons_zero, List.set_cons_succ]
    refine hw_takeL 2 (v := ?_) rfl (by kernel_rfl) (by kernel_rfl) (by kernel_rfl) (fun _ _ _ h => h) (by rfl) (fun u hu => ?_) (by assumption) ?_
    rotate_left
    focus ((try dsimp only at hu); have u0 := hu.cell HC7.out nofun; go_simp; (try with_reducible rfl); done)
    try simp only [Act.put, List.setIfInBounds_toArray, List.set_cons_zero, List.set_cons_succ]
    refine hw_takeL 3 (v := ?_) rfl (by kernel_rfl) (by kernel_rfl) (by kernel_rfl) (fun _ _ _ h => h) (by rfl) (fun u hu => ?_) (by assumption) ?_
    rotate_left
    focus ((try dsimp only at hu); have u0 := hu.cell HC7.out nofun; go_simp; (try with_reducible rfl); done)
    try simp only [Act.put, List.setIfInBounds_toArray, List.set_cons_zero, List.set_cons_succ]
    refine hw_takeL 5 (v := ?_) rfl (by kernel_rfl) (by kernel_rfl) (by kernel_rfl) (fun _ _ _ h => h) (by rfl) (fun u hu => ?_) (by assumption) ?_
    rotate_left
    focus ((try dsimp only at hu); have u0 := hu.cell HC7.out nofun; go_simp; (try with_reducible rfl); done)
    try simp only [Act.put, List.setIfInBounds_toArray, List.set_cons_zero, List.set_cons_succ]
    refine hw_takeL 6 (v := ?_) rfl (by kernel_rfl) (by kernel_rfl) (by kernel_rfl) (fun _ _ _ h => h) (by rfl) (fun u hu => ?_) (by assumption) ?_
    rotate_left
    focus ((try dsimp only at hu); have u0 := hu.cell HC7.out nofun; go_simp; (try with_reducible rfl); done)
    try simp only [Act.put, List.setIfInBounds_toArray, List.set_cons_zero, List.set_cons_succ]
    refine hw_takeL 7 (v := ?_) rfl (by kernel_rfl) (by kernel_rfl) (by kernel_rfl) (fun _ _ _ h => h) (by rfl) (fun u hu => ?_) (by assumption) ?_
    rotate_left
    focus ((try dsimp only at hu); have u0 := hu.cell HC7.out nofun; go_simp; (try with_reducible rfl); done)
    try simp only [Act.put, List.setIfInBounds_toArray, List.set_cons_zero, List.set_cons_succ]
    refine hw_takeL 8 (v := ?_) rfl (by kernel_rfl) (by kernel_rfl) (by kernel_rfl) (fun _ _ _ h => h) (by rfl) (fun u hu => ?_) (by assumption) ?_
    rotate_left
    focus ((try dsimp only at hu); have u0 := hu.cell HC7.out nofun; go_simp; (try with_reducible rfl); done)
    try simp only [Act.put, List.setIfInBounds_toArray, List.set_cons_zero, List.set_cons_succ]
    refine hw_takeL 10 (v := ?_) rfl (by kernel_rfl) (by kernel_rfl) (by kernel_rfl) (fun _ _ _ h => h) (by rfl) (fun u hu => ?_) (by assumption) ?_
    rotate_left
    focus ((try dsimp only at hu); have u0 := hu.cell HC7.out nofun; go_simp; (try with_reducible rfl); done)
    try simp only [Act.put, List.setIfInBounds_toArray, List.set_cons_zero, List.set_cons_succ]
    refine hw_takeL 11 (v := ?_) rfl (by kernel_rfl) (by kernel_rfl) (by kernel_rfl) (fun _ _ _ h => h) (by rfl) (fun u hu => ?_) (by assumption) ?_
    rotate_left
    focus ((try dsimp only at hu); have u0 := hu.cell HC7.out nofun; go_simp; (try with_reducible rfl); done)
    try simp only [Act.put, List.setIfInBounds_toArray, List.set_cons_zero, List.set_cons_succ]
    refine hw_takeL 14 (v := ?_) rfl (by kernel_rfl) (by kernel_rfl) (by kernel_rfl) (fun _ _ _ h => h) (by rfl) (fun u hu => ?_) (by assumption) ?_
    rotate_left
    focus ((try dsimp only at hu); have u0 := hu.cell HC7.out nofun; go_simp; (try with_reducible rfl); done)
    try simp only [Act.put, List.setIfInBounds_toArray, List.set_cons_zero, List.set_cons_succ]
    refine hw_takeL 15 (v := ?_) rfl (by kernel_rfl) (by kernel_rfl) (by kernel_rfl) (fun _ _ _ h => h) (by rfl) (fun u hu => ?_) (by assumption) ?_
    rotate_left
    focus ((try dsimp only at hu); have u0 := hu.cell HC7.out nofun; go_simp; (try with_reducible rfl); done)
    try simp only [Act.put, List.setIfInBounds_toArray, List.set_cons_zero, List.set_cons_succ]
    refine hw_takeL 12 (v := ?_) rfl (by kernel_rfl) (by kernel_rfl) (by kernel_rfl) (fun _ _ _ h => h) (by rfl) (fun u hu => ?_) (by assumption) ?_
    rotate_left
    focus ((try dsimp only at hu); go_simp; (try with_reducible rfl); done)
    try simp only [Act.put, List.setIfInBounds_toArray, List.set_cons_zero, List.set_cons_succ]
    refine hw_takeL 16 (v := ?_) rfl (by kernel_rfl) (by kernel_rfl) (by kernel_rfl) (fun _ _ _ h => h) (by rfl) (fun u hu => ?_) (by assumption) ?_
    rotate_left
    focus ((try dsimp only at hu); go_simp; (try with_reducible rfl); done)
    try simp only [Act.put, List.setIfInBounds_toArray, List.set_cons_zero, List.set_cons_succ]
    have hjn : ¬ c1 = j := by omega
    have hra := Sl.drop (HRU7.out.1.kept GD7.out nofun) (k := j) (by rw [HRL.out]; omega) (A' := some ⟨rq, ro + j * 6, none⟩) (fun b o _ e => by cases e; rfl)
    have hrb := Sl.take (HRU7.out.1.kept GD7.out nofun) (m := j) (by rw [HRL.out]; omega)
    rw [show (ruCells rules).drop (j * 6) = ruCells (rules.drop j) from flat_drop ru_len rules j, HRL.out] at hra
    rw [show (ruCells rules).take (j * 6) = ruCells (rules.take j) from flat_take ru_len rules j] at hrb
    have HRA := Lib.hid hra
    have HRB := Lib.hid hrb
    clear hra hrb
    refine hw_oneL 4 (by kernel_rfl) rfl (fun K hK => ?_)
    refine step_append_sl _ (by rfl) _ _ 22 (by rfl) w7.heap.size 51 i0 _ 6 80 Tryd.underlying22 hi hz0 hz1 hz2 rfl (by decide) (.slice none 0 0) 0 [] (by rfl) (World.ownsRow_nil _ _ _ _) _ (n1 - j) _ _ (by rfl) (by rw [if_neg hjn]; exact HRA.out) (by unfold maxLen; omega) (by omega) (Nat.le_refl _) ?_
    intro vA wA hapA
    have GA := Lib.hid (grownBy_trans GD7.out hapA.2.1 nofun)
    have HAPA := Lib.hid hapA
    clear hapA
    refine hK.out _ _ (by exact GA.out) (fun hHeld4 => ?_)
    clear hK K
    try simp only [Act.put, List.setIfInBounds_toArray, List.set_cons_zero, List.set_cons_succ]
    refine hw_oneL 9 (by kernel_rfl) rfl (fun K hK => ?_)
    refine step_append_sl _ (by rfl) _ _ 22 (by rfl) w7.heap.size 51 i0 _ 6 80 Tryd.underlying22 hi hz0 hz1 hz2 rfl (by decide) vA (0 + (n1 - j)) _ (by rfl) HAPA.out.1 (some ⟨rq, ro, none⟩) j _ _ (by rfl) (HRB.out.kept HAPA.out.2.1 nofun) (by unfold maxLen; omega) (by omega) GA.out.size ?_
    intro vB wB hapB
    have hgb := grownBy_trans GA.out hapB.2.1 (fun l hl => .inr (HAPA.out.1.lt l hl).1)
    obtain ⟨A2, c2, rfl, hrus2⟩ := rus_turned HRL.out (by omega) hapB.1 (fun r hr => (HRU7.out.2 r hr).kept hgb)
    have GB := Lib.hid hgb
    have HRU2 := Lib.hid hrus2
    clear hapB hgb hrus2 HAPA HRA HRB
    refine hK.out _ _ (by exact GB.out) (fun hHeld9 => ?_)
    clear hK K
    try simp only [Act.put, List.setIfInBounds_toArray, List.set_cons_zero, List.set_cons_succ]
    have hsc := HEN7.out.1.kept GB.out nofun
    rw [HEL.out] at hsc
    have HSC := Lib.hid hsc
    clear hsc
    refine hw_oneL 13 (by kernel_rfl) rfl (fun K hK => ?_)
    refine step_append_sl _ (by rfl) _ _ 39 (by rfl) wB.heap.size 25 j0 _ 2 40 Tryd.underlying39 hj hy0 hy1 hy2 rfl (by decide) (.slice none 0 0) 0 [] (by rfl) (World.ownsRow_nil _ _ _ _) _ (mn - k) _ ((enCells es).drop (k * 2)) (by rfl) (by exact HSC.out.drop hkm (fun b o h e => by subst e; rw [if_neg (by omega)]; simp [Addr.add_lit])) (by unfold maxLen; omega) (by omega) (Nat.le_refl _) ?_
    intro vC wC hapC
    have GC := Lib.hid (grownBy_trans GB.out hapC.2.1 nofun)
    have HAPC := Lib.hid hapC
    have HSD := Lib.hid ((HSC.out.kept hapC.2.1 nofun).take (m := k) hkm)
    clear hapC
    refine hK.out _ _ (by exact GC.out) (fun hHeld13 => ?_)
    clear hK K
    try simp only [Act.put, List.setIfInBounds_toArray, List.set_cons_zero, List.set_cons_succ]
    refine hw_oneL 17 (by kernel_rfl) rfl (fun K hK => ?_)
    refine step_append_sl _ (by rfl) _ _ 39 (by rfl) wB.heap.size 25 j0 _ 2 40 Tryd.underlying39 hj hy0 hy1 hy2 rfl (by decide) vC (0 + (mn - k)) _ (by rfl) HAPC.out.1 M k _ _ (by rfl) HSD.out (by unfold maxLen; omega) (by omega) HAPC.out.2.1.size ?_
    intro vD wD hapD
    have hgBD := grownBy_trans HAPC.out.2.1 hapD.2.1 (fun l hl => .inr (HAPC.out.1.lt l hl).1)
    have hgD := grownBy_trans GB.out hgBD nofun
    have hsd : (enCells es).drop (k * 2) = enCells (es.drop k) := flat_drop en_len es k
    have hst : (enCells es).take (k * 2) = enCells (es.take k) := flat_take en_len es k
    have hod := hapD.1
    rw [hsd, hst] at hod
    obtain ⟨E2, ec2, rfl, hens2⟩ := ens_turned HEL.out hkm hod (fun r hr => (HEN7.out.2 r hr).kept hgD)
    have GDD := Lib.hid hgD
    have HRU3 := Lib.hid (HRU2.out.kept hgBD)
    have HEN2 := Lib.hid hens2
    clear hapD hgBD hgD hsd hst hod hens2 HAPC HSC HSD
    refine hK.out _ _ (by exact GDD.out) (fun hHeld17 => ?_)
    clear hK K
    try simp only [Act.put, List.setIfInBounds_toArray, List.set_cons_zero, List.set_cons_succ]
    refine hw_oneL 18 (by kernel_rfl) rfl (fun K hK => ?_)
    go_simp
    go_at_call 17
    refine (all13_walk (turned rules j) A2 n1 c2 (turned es k) E2 mn ec2 wD (turned_len HRL.out (by omega)) (by omega) HRU3.out (turned_len HEL.out hkm) HEN2.out hmul (tabs_kept HT.out (grownBy_trans HW4.out (grownBy_trans G7.out GDD.out nofun) nofun))).mono ?_
    rintro e w9 ⟨vz, rfl, ⟨Z, zc, rfl, hoz⟩, hg9⟩
    rw [all_turned, HLE.out, HNL.out] at hoz ⊢
    have G9 := Lib.hid (grownBy_trans GDD.out hg9 nofun)
    have HZ9 := Lib.hid (Sl.of_own hoz (strCells_one' _))
    clear hoz hg9
    try go_simp
    refine hK.out _ _ (by exact G9.out) (fun hHeld18 => ?_)
    clear hK K
    try simp only [Act.put, List.setIfInBounds_toArray, List.set_cons_zero, List.set_cons_succ]
    refine hw_takeL 19 (v := ?_) rfl (by kernel_rfl) (by kernel_rfl) (by kernel_rfl) (fun _ _ _ h => h) (by rfl) (fun u hu => ?_) (by assumption) ?_
    rotate_left
    focus ((try dsimp only at hu); go_simp; (try with_reducible rfl); done)
    try simp only [Act.put, List.setIfInBounds_toArray, List.set_cons_zero, List.set_cons_succ]
    refine hw_takeL 20 (v := ?_) rfl (by kernel_rfl) (by kernel_rfl) (by kernel_rfl) (fun _ _ _ h => h) (by rfl) (fun u hu => ?_) (by assumption) ?_
    rotate_left
    focus ((try dsimp only at hu); go_simp; (try with_reducible rfl); done)
    try simp only [Act.put, List.setIfInBounds_toArray, List.set_cons_zero, List.set_cons_succ]
    refine hw_takeL 21 (v := ?_) rfl (by kernel_rfl) (by kernel_rfl) (by kernel_rfl) (fun _ _ _ h => h) (by rfl) (fun u hu => ?_) (by assumption) ?_
    rotate_left
    focus ((try dsimp only at hu); go_simp; (try with_reducible rfl); done)
    try simp only [Act.put, List.setIfInBounds_toArray, List.set_cons_zero, List.set_cons_succ]
    refine hw_oneL 22 (by kernel_rfl) rfl (fun K hK => ?_)
    go_simp
    refine hK.out _ _ (by exact G9.out) (fun hHeld22 => ?_)
    clear hK K
    try simp only [Act.put, List.setIfInBounds_toArray, List.set_cons_zero, List.set_cons_succ]
    refine hw_oneL 23 (by kernel_rfl) rfl (fun K hK => ?_)
    go_simp
    refine hK.out _ _ (by exact G9.out) (fun hHeld23 => ?_)
    clear hK K
    try simp only [Act.put, List.setIfInBounds_toArray, List.set_cons_zero, List.set_cons_succ]
    refine hw_done (by kernel_rfl) ?_
    go_wp2_with fail
    all_goals
      refine (same_walk L X Y ny xc yc w9 HNL.out (by omega) (HX7.out.kept G9.out nofun) (HY7.out.kept G9.out nofun)).mono ?_
      rintro e w10 ⟨rfl, hg10⟩
      have G10 := Lib.hid (grownBy_trans G9.out hg10 nofun)
      have HZ10 := Lib.hid (HZ9.out.kept hg10 nofun)
      clear hg10
      go_wp2_with fail
      refine (same_walk L X Z ny xc zc w10 HNL.out (by omega) (HX7.out.kept G10.out nofun) HZ10.out).mono ?_
      rintro e w11 ⟨rfl, hg11⟩
      have G11 := Lib.hid (grownBy_trans HW4.out (grownBy_trans G7.out (grownBy_trans G10.out hg11 nofun) nofun) nofun)
      clear hg11
      go_wp2_with fail
      refine (awake13_walk w11 (tabs_kept HT.out G11.out)).mono ?_
      rintro e w12 ⟨rfl, hg12⟩
      have G12 := Lib.hid (grownBy_trans G11.out hg12 nofun)
      clear hg12
      go_wp2_with fail
      go_ret
      exact ⟨rfl, G12.out⟩
end Go.Proofs.YtlbbjcggjmaehaaDoor
