/- Both ways to choose answer alike at every matrix: one function of the matrix says what they answer. -/
import Derived.Test.YtnagdebioaekoaaDoorFine
namespace Go.Proofs.YtnagdebioaekoaaDoor.ChooseBoth
open Go.RowKit Go.Proofs.YtnagdebioaekoaaDoor.ChooseMath Go.Proofs.YtnagdebioaekoaaDoor.ChooseBits Go.Proofs.YtnagdebioaekoaaDoor.ChooseList Go.Proofs.YtnagdebioaekoaaDoor.ChooseRef Go.Proofs.YtnagdebioaekoaaDoor.ChooseProbe Go.Proofs.YtnagdebioaekoaaDoorW.PrintWords
set_option linter.unusedVariables false

def rectB (m : List (List Bool)) : Bool := m.all fun row => row.length == ChooseRef.rowLen m 0
def answer (m : List (List Bool)) : List Nat × Int :=
  if rectB m = true then
    if m.length > 2000 ∨ ChooseRef.rowLen m 0 > 16 then ([], 3) else (refChoose m (ChooseRef.rowLen m 0), 0)
  else ([], 2)

theorem rect_of {m : List (List Bool)} (h : rectB m = true) : Rect m (ChooseRef.rowLen m 0) := fun row hr => by
  have := List.all_eq_true.1 h row hr
  simpa using this
theorem all_of {m : List (List Bool)} (h : rectB m = true) (j : Nat) (hj : j < m.length) : ChooseRef.rowLen m j = ChooseRef.rowLen m 0 := by
  have h1 := rect_of h (m.getD j []) (by rw [List.getD_eq_getElem?_getD, List.getElem?_eq_getElem hj]; exact List.getElem_mem hj)
  exact h1
theorem bad_of {m : List (List Bool)} (h : ¬ rectB m = true) : ∃ j, j < m.length ∧ ChooseRef.rowLen m j ≠ ChooseRef.rowLen m 0 := by
  have h1 : rectB m = false := Bool.eq_false_iff.2 h
  unfold rectB at h1
  obtain ⟨row, hr, hne⟩ := List.all_eq_false.1 h1
  obtain ⟨j, hj, rfl⟩ := List.mem_iff_getElem.1 hr
  refine ⟨j, hj, ?_⟩
  have : ChooseRef.rowLen m j = (m[j]).length := by unfold ChooseRef.rowLen; rw [List.getD_eq_getElem?_getD, List.getElem?_eq_getElem hj]; rfl
  rw [this]
  simpa using hne

section
variable {m : List (List Bool)} {A : Option Addr} {cm : Nat}

theorem ref_any (w : World) (hC : Kd.C (Kd.slice 4 Kd.bool) w A m.length m) (hcm : m.length ≤ cm) (hlen : m.length ≤ 5864062014634) :
    Calls Tryd.prog 6 #[.slice A m.length cm] w (GivesE (answer m).1 (answer m).2 w) := by
  unfold answer
  by_cases h1 : rectB m = true
  · rw [if_pos h1]
    by_cases h2 : m.length > 2000 ∨ ChooseRef.rowLen m 0 > 16
    · rw [if_pos h2]
      by_cases h3 : m.length > 2000
      · exact ref_many w hC hcm hlen (all_of h1) h3
      · have h4 : 16 < ChooseRef.rowLen m 0 := by rcases h2 with h2 | h2; exact absurd h2 h3; exact h2
        have h5 : 0 < m.length := by
          cases m with
          | nil => simp [ChooseRef.rowLen] at h4
          | cons r m => simp
        exact ref_wide w hC hcm hlen (all_of h1) h5 (by omega) h4
    · rw [if_neg h2]
      have h3 : m.length ≤ 2000 := by omega
      have h4 : ChooseRef.rowLen m 0 ≤ 16 := by omega
      have hM : Mat m (ChooseRef.rowLen m 0) A cm w := ⟨h4, h3, rect_of h1, hcm, hC⟩
      by_cases h5 : 0 < m.length
      · exact ref_fine w hC hcm hlen (all_of h1) h5 h3 _ rfl h4 hM
      · obtain rfl : m = [] := List.eq_nil_of_length_eq_zero (by omega)
        exact ref_empty w hM
  · rw [if_neg h1]
    obtain ⟨j, hj, hne⟩ := bad_of h1
    exact ref_form w hC hlen j hj hne

theorem probe_any (w : World) (hC : Kd.C (Kd.slice 4 Kd.bool) w A m.length m) (hlen : m.length ≤ 5864062014634) (hT : TabAt 1 Lib.deBruijn64tab w) :
    Calls Tryd.prog 4 #[.slice A m.length cm] w (GivesE (answer m).1 (answer m).2 w) := by
  unfold answer
  by_cases h1 : rectB m = true
  · rw [if_pos h1]
    by_cases h2 : m.length > 2000 ∨ ChooseRef.rowLen m 0 > 16
    · rw [if_pos h2]
      by_cases h3 : m.length > 2000
      · exact probe_many w hC hlen (all_of h1) h3
      · have h4 : 16 < ChooseRef.rowLen m 0 := by rcases h2 with h2 | h2; exact absurd h2 h3; exact h2
        have h5 : 0 < m.length := by
          cases m with
          | nil => simp [ChooseRef.rowLen] at h4
          | cons r m => simp
        exact probe_wide w hC hlen (all_of h1) h5 (by omega) h4
    · rw [if_neg h2]
      have h3 : m.length ≤ 2000 := by omega
      have h4 : ChooseRef.rowLen m 0 ≤ 16 := by omega
      by_cases h5 : 0 < m.length
      · have h := probe_fine (cm := cm) w hC h5 h3 h4 (rect_of h1) hT
        rw [choose_same h4 (rect_of h1)] at h
        exact h
      · obtain rfl : m = [] := List.eq_nil_of_length_eq_zero (by omega)
        exact probe_empty w
  · rw [if_neg h1]
    obtain ⟨j, hj, hne⟩ := bad_of h1
    exact probe_form w hC hlen j hj hne
end

/-! ### what the law asks of an answer -/
theorem answer_err (m : List (List Bool)) : (answer m).2 = 0 ∨ (answer m).2 = 2 ∨ (answer m).2 = 3 := by
  unfold answer
  split
  · split
    · right; right; rfl
    · left; rfl
  · right; left; rfl

/-- Where there is no error, the matrix is small, and the list is the least. -/
theorem answer_ok {m : List (List Bool)} (h : (answer m).2 = 0) : ∃ n, n ≤ 16 ∧ m.length ≤ 2000 ∧ Rect m n ∧ (answer m).1 = bitsOf (bestTo m n (2 ^ n - 1)) := by
  unfold answer at *
  by_cases h1 : rectB m = true
  · rw [if_pos h1] at *
    by_cases h2 : m.length > 2000 ∨ ChooseRef.rowLen m 0 > 16
    · rw [if_pos h2] at h; exact absurd h (by decide)
    · rw [if_neg h2]
      have h4 : ChooseRef.rowLen m 0 ≤ 16 := by omega
      exact ⟨_, h4, by omega, rect_of h1, (choose_same h4 (rect_of h1)).symm⟩
  · rw [if_neg h1] at h; exact absurd h (by decide)

theorem answer_small (m : List (List Bool)) : (answer m).1.length ≤ 16 ∧ ∀ a ∈ (answer m).1, a < 16 := by
  by_cases h : (answer m).2 = 0
  · obtain ⟨n, hn, _, hr, e⟩ := answer_ok h
    rw [e]
    refine ⟨bits_le _, fun a ha => ?_⟩
    have := (bitsOf_asc hn (bestTo_lt m n _ (Nat.le_refl _))).lt a ha
    omega
  · have : (answer m).1 = [] := by
      unfold answer at *
      by_cases h1 : rectB m = true
      · rw [if_pos h1] at *
        by_cases h2 : m.length > 2000 ∨ ChooseRef.rowLen m 0 > 16
        · rw [if_pos h2]
        · rw [if_neg h2] at h; exact absurd rfl h
      · rw [if_neg h1]
    rw [this]
    exact ⟨by simp, fun a ha => by simp at ha⟩

theorem answer_enough {m : List (List Bool)} (h : (answer m).2 = 0) : enoughB m (answer m).1 = true := by
  obtain ⟨n, hn, _, hr, e⟩ := answer_ok h
  rw [e]
  exact (best_least hn hr).2.1
theorem answer_least {m : List (List Bool)} (h : (answer m).2 = 0) (k : Nat) (hk : k < (answer m).1.length) : enoughB m ((answer m).1.eraseIdx k) = false := by
  obtain ⟨n, hn, _, hr, e⟩ := answer_ok h
  rw [e] at hk ⊢
  exact best_none_out hn hr k hk
theorem answer_toy : answer [[true, false, true], [false, true, true]] = ([2], 0) := by decide

end Go.Proofs.YtnagdebioaekoaaDoor.ChooseBoth
