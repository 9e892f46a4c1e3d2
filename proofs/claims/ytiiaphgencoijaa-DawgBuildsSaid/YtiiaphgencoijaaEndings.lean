/-
  ref15's endings: the walk. Conditions: few words, short ones.
-/
import Derived.Test.YtiiaphgencoijaaSorted
namespace Go.Proofs.Ytiiaphgencoijaa
open Go Go.RowKit Go.Maps

def preB (h x : Wd) : Bool := decide (h.length ≤ x.length) && (x.take h.length == h)
def endStep (h s x : Wd) : Wd := if preB h x then s ++ x.drop h.length ++ [0] else s
/-- What stands behind a beginning, as one text. -/
def endS (m : List Wd) (h : Wd) : Wd := m.foldl (endStep h) []

theorem endStep_len (h s x : Wd) : (endStep h s x).length ≤ s.length + x.length + 1 := by
  unfold endStep; split <;> (try simp) <;> omega

theorem ext_take (x : Wd) (k : Nat) : (⟨x.toArray⟩ : ByteArray).extract 0 k = ⟨(x.take k).toArray⟩ := by
  apply ByteArray.ext
  simp [ByteArray.data_extract]

theorem ext_drop (x : Wd) (k : Nat) : (⟨x.toArray⟩ : ByteArray).extract k x.length = ⟨(x.drop k).toArray⟩ := by
  apply ByteArray.ext
  simp [ByteArray.data_extract]
  exact List.take_of_length_le (by simp)

set_option maxRecDepth 100000 in
set_option maxHeartbeats 1000000 in
theorem endings_walk (ss : List Wd) (h : Wd) (A : Option Addr) (n c : Nat) (w : World) (hn : ss.length = n) (hb : n ≤ 1000) (hx : ∀ x ∈ ss, x.length ≤ 1000) (hh : h.length ≤ 1000) (hs : Sl w 1 A n (strCells ss)) :
    Calls Try.prog 51 #[.slice A n c, .string ⟨h.toArray⟩] w fun e w' => e = .returned (.string ⟨(endS ss h).toArray⟩) ∧ w' = w := by
  have H := Lib.hid hs
  have HN := Lib.hid hn
  have HX := Lib.hid hx
  have hsz : (⟨h.toArray⟩ : ByteArray).size = h.length := by simp [ByteArray.size]
  clear hs hn hx
  go_enter Try.func51, Try.ntmps51
  go_wp2_with fail
  go_loopw [5, 6] (fun sv iv wr => ∃ (i : Nat) (s : Wd), i ≤ n ∧ iv = .int .i64 i ∧ sv = .string ⟨s.toArray⟩ ∧ wr = w ∧ s.length ≤ i * 1001 ∧ (ss.drop i).foldl (endStep h) s = endS ss h) (fun _ iv _ => n - (intOf iv).toNat)
  case atStart => exact ⟨0, [], Nat.zero_le _, rfl, rfl, rfl, by simp, rfl⟩
  case round =>
    obtain ⟨i, s, hi, rfl, rfl, rfl, hsl, hfold⟩ := hrel
    have HF := Lib.hid hfold
    have HSL := Lib.hid hsl
    have hs2 : s.length ≤ 2000000 := by omega
    clear hfold hsl
    rcases Nat.lt_or_ge i n with hlt | hge
    · obtain ⟨x, hxi⟩ : ∃ x, ss[i]? = some x := ⟨_, List.getElem?_eq_getElem (by rw [HN.out]; exact hlt)⟩
      obtain ⟨q, o, rfl, hc⟩ := H.out.str hxi
      have hxl := HX.out x (List.mem_of_getElem? hxi)
      have hxs : (⟨x.toArray⟩ : ByteArray).size = x.length := by simp [ByteArray.size]
      have hdrop : (ss.drop i).foldl (endStep h) s = (ss.drop (i + 1)).foldl (endStep h) (endStep h s x) := by
        obtain ⟨h1, h2⟩ := List.getElem?_eq_some_iff.1 hxi
        rw [List.drop_eq_getElem_cons h1, List.foldl_cons, h2]
      have HD := Lib.hid hdrop
      have HXI := Lib.hid hxi
      clear hdrop hxi
      by_cases hp : h.length ≤ x.length
      · obtain ⟨xt, hxt⟩ : ∃ xt : Wd, x.take h.length = xt := ⟨_, rfl⟩
        obtain ⟨xd, hxd⟩ : ∃ xd : Wd, x.drop h.length = xd := ⟨_, rfl⟩
        have e1 : (⟨x.toArray⟩ : ByteArray).extract 0 h.length = ⟨xt.toArray⟩ := by rw [← hxt]; exact ext_take _ _
        have e2 : (⟨x.toArray⟩ : ByteArray).extract h.length x.length = ⟨xd.toArray⟩ := by rw [← hxd]; exact ext_drop _ _
        have hdl : xd.length ≤ 1000 := by rw [← hxd, List.length_drop]; omega
        have hpr : preB h x = (xt == h) := by unfold preB; rw [decide_eq_true hp, Bool.true_and, hxt]
        have HPR := Lib.hid hpr
        have HXT := Lib.hid hxt
        have HXD := Lib.hid hxd
        clear hpr hxt hxd
        by_cases hb1 : xt = h
        · have hb2 : (xt == h) = true := by simpa using hb1
          have HB := Lib.hid hb2
          subst hb1
          obtain ⟨s2, hs3⟩ : ∃ s2 : Wd, s ++ xd ++ [0] = s2 := ⟨_, rfl⟩
          have e3 : (⟨s.toArray⟩ : ByteArray) ++ ⟨xd.toArray⟩ ++ ⟨#[0]⟩ = ⟨s2.toArray⟩ := by rw [← hs3, bytes_append]; exact bytes_append _ [0]
          have HS3 := Lib.hid hs3
          clear hs3
          go_wp2_with fail
          go_roundw
          case rel =>
            have hlen := congrArg List.length HS3.out
            simp only [List.length_append, List.length_cons, List.length_nil] at hlen
            refine ⟨i + 1, s2, by omega, by go_num, ?_, by first | rfl | trivial, by have := HSL.out; omega, ?_⟩
            · first | rfl | (rw [e3])
            · rw [← HF.out, HD.out]
              have : endStep xt s x = s2 := by unfold endStep; rw [HPR.out, HB.out, if_pos rfl, HXD.out]; exact HS3.out
              rw [this]
          case measure => simp [intOf]; omega
        · have hb2 : (xt == h) = false := by simpa using hb1
          go_wp2_with fail
          go_roundw
          case rel =>
            refine ⟨i + 1, s, by omega, by go_num, rfl, by first | rfl | trivial, by have := HSL.out; omega, ?_⟩
            rw [← HF.out, HD.out]
            have : endStep h s x = s := by unfold endStep; rw [HPR.out, hb2]; rfl
            rw [this]
          case measure => simp [intOf]; omega
      · have hpr : preB h x = false := by unfold preB; rw [decide_eq_false hp]; rfl
        have HPR := Lib.hid hpr
        clear hpr
        go_wp2_with fail
        go_roundw
        case rel =>
          refine ⟨i + 1, s, by omega, by go_num, rfl, by first | rfl | trivial, by have := HSL.out; omega, ?_⟩
          rw [← HF.out, HD.out]
          have : endStep h s x = s := by unfold endStep; rw [HPR.out]; rfl
          rw [this]
        case measure => simp [intOf]; omega
    · obtain rfl : i = n := by omega
      have e0 : s = endS ss h := by rw [← HF.out, List.drop_eq_nil_of_le (by rw [HN.out]; exact Nat.le_refl _)]; rfl
      have HE := Lib.hid e0
      clear e0
      go_wp2_with fail
      go_ret
      exact ⟨by rw [← HE.out]; rfl, rfl⟩
end Go.Proofs.Ytiiaphgencoijaa
