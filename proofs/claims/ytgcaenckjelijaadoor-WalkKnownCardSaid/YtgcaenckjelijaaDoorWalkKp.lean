/-
  Layer 18's law WalkKnown, its plain part: of all words of three letters of four those that are so near: as many as can be counted. Every number.
-/
import Derived.Test.YtgcaenckjelijaaDoorWalkY
namespace Go.Proofs.YtgcaenckjelijaaDoor
open Go Go.RowKit Go.Maps

def knW (i : Nat) : Wd := [UInt8.ofNat (97 + i / 16), UInt8.ofNat (97 + i / 4 % 4), UInt8.ofNat (97 + i % 4)]
def knWs (k : Nat) : List Wd := (List.range k).map knW
def knC (i : Nat) : List Int := [(97 + (i / 16 : Nat) : Int), (97 + (i / 4 % 4 : Nat) : Int), (97 + (i % 4 : Nat) : Int)]
def knSts : List DSt := [(true, []), (false, [(97, 0), (98, 0), (99, 0), (100, 0)]), (false, [(97, 1), (98, 1), (99, 1), (100, 1)]), (false, [(97, 2), (98, 2), (99, 2), (100, 2)])]

theorem kn_build : buildS 201 (knWs 64) [] = (3, knSts) := by decide +kernel
theorem kn_rise : Rise (knWs 64) ∧ (∀ w ∈ knWs 64, w.length < 201) ∧ tooBig (knWs 64) = false ∧ tot (knWs 64) ≤ 1000 := by unfold Rise; decide +kernel

def oneK (i : Nat) : Nat := 10 + (if i / 16 = i / 4 % 4 then 0 else 1) + (if i / 4 % 4 = i % 4 then 0 else 1)
def knL (i m : Nat) : List (Wd × Nat) := (walkS knSts 3 (knC i) m).l

def risesB : List (Wd × Nat) → Bool
  | a :: b :: t => decide (a.1 < b.1) && risesB (b :: t)
  | _ => true

/-- What the law asks of the offers. -/
def knOk (i m : Nat) : Bool :=
  risesB (knL i m) && (knL i m).all (fun o => decide (o.2 ≤ m) && (decide (o.2 = 0) == (o.1 == knW i))) && decide ((walkS knSts 3 (knC i) m).steps ≤ 1000) && decide ((knL i m).length ≤ 64) &&
    (match m with
      | 0 => decide ((knL i m).length = 1)
      | 1 => decide ((knL i m).length = oneK i)
      | 2 => decide (((knL i m).filter fun o => decide (o.2 ≤ 1)).length = oneK i) && decide (oneK i < (knL i m).length)
      | _ => decide (((knL i m).filter fun o => decide (o.2 ≤ 1)).length = oneK i) && decide ((knL i m).length = 64))

theorem kn_ok : ((List.range 64).all fun i => (List.range 4).all fun m => knOk i m) = true := by decide +kernel

theorem risesB_get : ∀ {l : List (Wd × Nat)} {j : Nat} {a b : Wd × Nat}, risesB l = true → l[j]? = some a → l[j + 1]? = some b → a.1 < b.1
  | [], _, _, _, _, h, _ => by simp at h
  | [x], j, _, _, _, _, h => by simp at h
  | x :: y :: t, 0, a, b, hr, ha, hb => by
    simp at ha hb; subst ha hb
    simp [risesB] at hr
    exact hr.1
  | x :: y :: t, j + 1, a, b, hr, ha, hb => by
    simp [risesB] at hr
    exact risesB_get hr.2 (by simpa using ha) (by simpa using hb)

/-- The same, limb by limb. -/
structure KnGood (i m : Nat) (L : List (Wd × Nat)) : Prop where
  rise : ∀ {j a b}, L[j]? = some a → L[j + 1]? = some b → a.1 < b.1
  near : ∀ o ∈ L, o.2 ≤ m ∧ (o.2 = 0 ↔ o.1 = knW i)
  few : L.length ≤ 64
  m0 : m = 0 → L.length = 1
  m1 : m = 1 → L.length = oneK i
  m2 : m = 2 → (L.filter fun o => decide (o.2 ≤ 1)).length = oneK i ∧ oneK i < L.length
  m3 : m = 3 → (L.filter fun o => decide (o.2 ≤ 1)).length = oneK i ∧ L.length = 64

theorem kn_good {i m : Nat} (hi : i < 64) (hm : m < 4) : KnGood i m (knL i m) ∧ (walkS knSts 3 (knC i) m).steps ≤ 1000 := by
  have h := List.all_eq_true.1 (List.all_eq_true.1 kn_ok i (List.mem_range.2 hi)) m (List.mem_range.2 hm)
  unfold knOk at h
  simp only [Bool.and_eq_true] at h
  obtain ⟨⟨⟨⟨h1, h2⟩, h3⟩, h4⟩, h5⟩ := h
  refine ⟨⟨fun ha hb => risesB_get h1 ha hb, fun o ho => ?_, of_decide_eq_true h4, fun e => ?_, fun e => ?_, fun e => ?_, fun e => ?_⟩, of_decide_eq_true h3⟩
  · have := List.all_eq_true.1 h2 o ho
    simp only [Bool.and_eq_true, decide_eq_true_eq] at this
    refine ⟨this.1, ?_⟩
    have h6 := this.2
    by_cases hz : o.2 = 0
    · simp [hz] at h6; simp [hz, h6]
    · have h7 : ¬ o.1 = knW i := by intro e; rw [decide_eq_false hz, e] at h6; simp at h6
      simp [hz, h7]
  · subst e; simpa using h5
  · subst e; simpa using h5
  · subst e; simpa using h5
  · subst e; simpa using h5
end Go.Proofs.YtgcaenckjelijaaDoor
