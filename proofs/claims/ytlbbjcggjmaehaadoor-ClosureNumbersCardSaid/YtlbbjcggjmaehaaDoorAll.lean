/-
  closure.All: the walk. Conditions: at most 900 rules; so few entries that there are at most 20000 forms.
-/
import Derived.Test.YtlbbjcggjmaehaaDoorForms
namespace Go.Proofs.YtlbbjcggjmaehaaDoor
open Go Go.RowKit Go.Maps Go.Sort

def EnsAt (w : World) (B : Option Addr) (es : List En) : Prop := Sl w 2 B es.length (enCells es) ∧ ∀ e ∈ es, EnAt w e
theorem EnsAt.kept {w w' : World} {B : Option Addr} {l : List En} (h : EnsAt w B l) (g : w.grownBy w' none) : EnsAt w' B l := ⟨h.1.kept g nofun, fun r hr => (h.2 r hr).kept g⟩

theorem en_cell {w : World} {B : Option Addr} {es : List En} (h : EnsAt w B es) {i : Nat} {e : En} (he : es[i]? = some e) :
    ∃ q o, B = some ⟨q, o, none⟩ ∧ w.cell? ⟨q, o + i * 2, none⟩ = some (.string ⟨e.word.toArray⟩) ∧ w.cell? ⟨q, o + i * 2 + 1, none⟩ = some (.slice e.F e.flags.length e.cap) := by
  have hi := (List.getElem?_eq_some_iff.1 he).1
  obtain ⟨q, o, rfl, hc⟩ := h.1.2.2 (by omega)
  have hg := flat_get (f := En.row) (k := 2) (fun _ => rfl) he
  refine ⟨q, o, rfl, hc _ _ (hg 0 (by omega)), ?_⟩
  rw [Nat.add_assoc]; exact hc _ _ (hg 1 (by omega))

theorem canon_len (ks : List Wd) : (canon ks).length ≤ ks.length := by rw [canon_putAll]; exact putAll_len ks

theorem formsQ_len (rules : List Ru) (e : En) : (formsQ rules e).length ≤ 1 + rules.length + rules.length * rules.length := by
  have h1 : ∀ l : List Ru, (l.flatMap (oneQ e)).length ≤ l.length := fun l => by
    induction l with
    | nil => simp
    | cons r l ih =>
      rw [List.flatMap_cons, List.length_append, List.length_cons]
      have : (oneQ e r).length ≤ 1 := by unfold oneQ; split; exact toList_len _; simp
      omega
  have h2 : ∀ (p : Ru) (l : List Ru), (l.flatMap (pairQ e p)).length ≤ l.length := fun p l => by
    induction l with
    | nil => simp
    | cons r l ih =>
      rw [List.flatMap_cons, List.length_append, List.length_cons]
      have : (pairQ e p r).length ≤ 1 := toList_len _
      omega
  have h3 : ∀ (S l : List Ru), (l.flatMap fun p => S.flatMap (pairQ e p)).length ≤ l.length * S.length := fun S l => by
    induction l with
    | nil => simp
    | cons r l ih =>
      rw [List.flatMap_cons, List.length_append, List.length_cons, Nat.add_mul]
      have := h2 r S
      omega
  unfold formsQ
  rw [List.length_append, List.length_append, List.length_singleton]
  have a1 := h1 rules
  have a2 := h3 (rules.filter (isS e)) (rules.filter (isP e))
  have a3 : (rules.filter (isP e)).length * (rules.filter (isS e)).length ≤ rules.length * rules.length := Nat.mul_le_mul (List.length_filter_le _ _) (List.length_filter_le _ _)
  omega

theorem allQ_len (rules : List Ru) : ∀ es : List En, (es.flatMap (formsQ rules)).length ≤ es.length * (1 + rules.length + rules.length * rules.length)
  | [] => by simp
  | e :: es => by
    rw [List.flatMap_cons, List.length_append, List.length_cons, Nat.add_mul]
    have h1 := formsQ_len rules e
    have h2 := allQ_len rules es
    omega

set_option maxRecDepth 100000 in
set_option maxHeartbeats 2000000 in
theorem all13_walk (rules : List Ru) (A : Option Addr) (n cap : Nat) (es : List En) (B : Option Addr) (m mcap : Nat) (w : World) (hn : rules.length = n) (hb : n ≤ 900) (hr : RusAt w A rules) (hm : es.length = m) (he : EnsAt w B es)
    (hN : m * (1 + n + n * n) ≤ 20000) (hT : Lib.Utf8Tabs 0 1 w) :
    Calls Tryd.prog 17 #[.slice A n cap, .slice B m mcap] w fun x w' => ∃ v, x = .returned (.tuple #[v, .int .i64 0]) ∧ OwnWd w.heap.size w' v (canon (es.flatMap (formsQ rules))) ∧ w.grownBy w' none := by
  have hm2 : m ≤ 20000 := Nat.le_trans (Nat.le_mul_of_pos_right m (by omega)) hN
  have hput := fun (e : En) (M nm : Nat) (ks : List Wd) (u : World) (he : EnAt w e) => put13_walk rules A n cap e M nm ks w u hn hb hr he hT
  have hmap := World.grownBy_alloc w (.map #[] 0) none
  have hset := SetIs.new w
  have hmk := make_set
  have HPUT := Lib.hid hput
  have HSET := Lib.hid hset
  have HG := Lib.hid hmap
  have HE := Lib.hid he
  have HM := Lib.hid hm
  have HN := Lib.hid hN
  have HRN := Lib.hid hn
  clear hput hmap hset he hm hr hT hN hn
  go_enter Tryd.func17, Tryd.ntmps17
  go_wp2_with fail
  clear hmk
  go_loopw [12] (fun iv wr => ∃ i c, i ≤ m ∧ iv = .int .i64 (i : Int) ∧ c ≤ i * 1000000 ∧ SetIs wr w.heap.size c ((es.take i).flatMap (formsQ rules)) ∧ w.grownBy wr none) (fun iv _ => m - (RowKit.intOf iv).toNat)
  case atStart => exact ⟨0, 0, Nat.zero_le _, rfl, by omega, HSET.out, HG.out⟩
  case round =>
    obtain ⟨i, c, hi, rfl, hc, hset, hg⟩ := hrel
    have HS := Lib.hid hset
    have HGI := Lib.hid hg
    clear hset hg
    rcases Nat.lt_or_ge i m with hlt | hge
    · have hlti : (i : Int) < (m : Int) := by omega
      obtain ⟨e, he⟩ : ∃ e, es[i]? = some e := ⟨_, List.getElem?_eq_getElem (by rw [HM.out]; exact hlt)⟩
      obtain ⟨q, o, rfl, c0, c1⟩ := en_cell (HE.out.kept HGI.out) he
      have hen := HE.out.2 e (List.mem_of_getElem? he)
      have htk : (es.take (i + 1)).flatMap (formsQ rules) = (es.take i).flatMap (formsQ rules) ++ formsQ rules e := by rw [List.take_add_one, he]; simp
      have hp := fun (M nm : Nat) (ks : List Wd) (u : World) => HPUT.out e M nm ks u hen
      have hev : e.val = .agg #[.string ⟨e.word.toArray⟩, .slice e.F e.flags.length e.cap] := rfl
      rw [hev] at hp
      obtain ⟨e0, he0⟩ : ∃ e0, e.word = e0 := ⟨_, rfl⟩
      obtain ⟨e1, he1⟩ : ∃ e1, e.F = e1 := ⟨_, rfl⟩
      obtain ⟨e2, he2⟩ : ∃ e2, e.flags.length = e2 := ⟨_, rfl⟩
      obtain ⟨e3, he3⟩ : ∃ e3, e.cap = e3 := ⟨_, rfl⟩
      rw [he0] at c0 hp
      rw [he1, he2, he3] at c1 hp
      have hal := World.grownBy_alloc wr (.cells #[.string ⟨e0.toArray⟩, .slice e1 e2 e3] 25) none
      have HP := Lib.hid hp
      have HTK := Lib.hid htk
      have HAL := Lib.hid hal
      clear hp htk hal he0 he1 he2 he3 hev hen he
      go_wp2_with fail
      refine (HP.out w.heap.size c ((es.take i).flatMap (formsQ rules)) _ (grownBy_trans HGI.out HAL.out nofun) (Nat.le_refl _) (HS.out.kept HAL.out nofun) (by unfold maxLen; omega)).mono ?_
      rintro x w1 ⟨rfl, ⟨c', hc', hset1⟩, hg1⟩
      rw [← HTK.out] at hset1
      have hlen := fun ty => (hset1.len ty).1
      have hcl : (canon ((es.take (i + 1)).flatMap (formsQ rules))).length ≤ 20000 := by
        have h1 := canon_len ((es.take (i + 1)).flatMap (formsQ rules))
        have h2 := allQ_len rules (es.take (i + 1))
        have h3 : (es.take (i + 1)).length * (1 + rules.length + rules.length * rules.length) ≤ m * (1 + n + n * n) := by
          rw [HRN.out]
          exact Nat.mul_le_mul_right _ (by rw [List.length_take, HM.out]; omega)
        have := HN.out
        omega
      obtain ⟨cl, hcle⟩ : ∃ cl, (canon ((es.take (i + 1)).flatMap (formsQ rules))).length = cl := ⟨_, rfl⟩
      rw [hcle] at hlen hcl
      have hcli : ¬ (20000 : Int) < (cl : Int) := by omega
      have HS1 := Lib.hid hset1
      have HG1 := Lib.hid (grown_new hg1 (grownBy_trans HGI.out HAL.out nofun) (Nat.le_refl _))
      clear hset1 hg1 hcle c0 c1
      go_wp2_with fail
      go_roundw
      case rel => exact ⟨i + 1, c', by omega, by go_num, by omega, HS1.out, HG1.out⟩
      case measure => simp [RowKit.intOf]; omega
    · obtain rfl : i = m := by omega
      have hset := HS.out
      rw [← HM.out, List.take_length] at hset
      have HS2 := Lib.hid hset
      clear hset
      go_wp2_with fail
      refine (keysOf_walk w.heap.size wr).mono ?_
      rintro x w2 ⟨rfl, rfl⟩
      go_wp2_with fail
      refine (keys_walk w.heap.size c _ wr HS2.out (by omega)).mono ?_
      rintro x w3 ⟨D, dc, rfl, hown, hg3⟩
      have HO := Lib.hid hown
      have HG3 := Lib.hid hg3
      clear hown hg3
      go_wp2_with fail
      go_ret2
      exact ⟨_, rfl, ⟨D, dc, rfl, ownsRow_base HO.out HGI.out.size⟩, grownBy_trans HGI.out HG3.out nofun⟩
end Go.Proofs.YtlbbjcggjmaehaaDoor
