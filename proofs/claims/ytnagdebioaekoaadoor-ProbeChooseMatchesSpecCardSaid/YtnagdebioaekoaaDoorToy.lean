/- The walk of the small choice that each statement makes: it is right. -/
import Derived.Test.YtnagdebioaekoaaDoorBoth
namespace Go.Proofs.YtnagdebioaekoaaDoor.ChooseLaw
open Go.RowKit Go.Proofs.YtnagdebioaekoaaDoor.ChooseMath Go.Proofs.YtnagdebioaekoaaDoor.ChooseBits Go.Proofs.YtnagdebioaekoaaDoor.ChooseList Go.Proofs.YtnagdebioaekoaaDoor.ChooseRef Go.Proofs.YtnagdebioaekoaaDoor.ChooseBoth Go.Proofs.YtnagdebioaekoaaDoorW.PrintWords
set_option linter.unusedVariables false

theorem C_three {w : World} {b : Nat} {x y z : Bool} (h : w.heap[b]? = some (.cells #[.bool x, .bool y, .bool z] 4 (0, 0))) : Kd.bool.C w (some ⟨b, 0, none⟩) 3 [x, y, z] := by
  refine ⟨rfl, by omega, fun _ => ⟨_, rfl, fun j p hj => ⟨[.bool p], rfl, rfl, fun i u hu => ?_⟩⟩⟩
  have hi : i = 0 := by
    cases i with
    | zero => rfl
    | succ i => simp at hu
  subst hi
  obtain rfl : Value.bool p = u := by simpa using hu
  rw [show j * Kd.bool.sz + 0 = j by show j * 1 + 0 = j; omega, add_plain]
  have hj3 : j < 3 := by
    rcases Nat.lt_or_ge j 3 with h1 | h1
    · exact h1
    · rw [List.getElem?_eq_none (by simpa using h1)] at hj; cases hj
  match j, hj3 with
  | 0, _ => simp at hj; subst hj; simp [World.cell?, h]
  | 1, _ => simp at hj; subst hj; simp [World.cell?, h]
  | 2, _ => simp at hj; subst hj; simp [World.cell?, h]

theorem C_two {w : World} {b c d : Nat} {r s : List Bool} (hr : Kd.bool.C w (some ⟨c, 0, none⟩) r.length r) (hs : Kd.bool.C w (some ⟨d, 0, none⟩) s.length s)
    (h : w.heap[b]? = some (.cells #[.slice (some ⟨c, 0, none⟩) r.length r.length, .slice (some ⟨d, 0, none⟩) s.length s.length] 31 (0, 0))) :
    Kd.C (Kd.slice 4 Kd.bool) w (some ⟨b, 0, none⟩) 2 [r, s] := by
  refine ⟨rfl, by omega, fun _ => ⟨_, rfl, fun j p hj => ?_⟩⟩
  have hj2 : j < 2 := by
    rcases Nat.lt_or_ge j 2 with h1 | h1
    · exact h1
    · rw [List.getElem?_eq_none (by simpa using h1)] at hj; cases hj
  match j, hj2 with
  | 0, _ =>
    simp at hj; subst hj
    refine ⟨[.slice (some ⟨c, 0, none⟩) r.length r.length], rfl, ⟨_, _, rfl, Nat.le_refl _, hr⟩, fun i u hu => ?_⟩
    have hi : i = 0 := by
      cases i with
      | zero => rfl
      | succ i => simp at hu
    subst hi
    rw [show 0 * (Kd.slice 4 Kd.bool).sz + 0 = 0 by show 0 * 1 + 0 = 0; omega, add_plain]
    simp at hu; subst hu
    simp [World.cell?, h]
  | 1, _ =>
    simp at hj; subst hj
    refine ⟨[.slice (some ⟨d, 0, none⟩) s.length s.length], rfl, ⟨_, _, rfl, Nat.le_refl _, hs⟩, fun i u hu => ?_⟩
    have hi : i = 0 := by
      cases i with
      | zero => rfl
      | succ i => simp at hu
    subst hi
    rw [show 1 * (Kd.slice 4 Kd.bool).sz + 0 = 1 by show 1 * 1 + 0 = 1; omega, add_plain]
    simp at hu; subst hu
    simp [World.cell?, h]

/-- The world in which the small matrix lies. -/
noncomputable def toyWorld (w : World) : World := ((w.alloc (.cells #[.bool true, .bool false, .bool true] 4)).alloc (.cells #[.bool false, .bool true, .bool true] 4)).alloc (.cells #[.slice (some ⟨w.heap.size, 0, none⟩) 3 3, .slice (some ⟨w.heap.size + 1, 0, none⟩) 3 3] 31)

theorem toy_below (w : World) : Below w.heap.size w (toyWorld w) := (((Below.refl _ _).alloc (Nat.le_refl _) _).alloc (by simp) _).alloc (by simp; omega) _
theorem toy_C (w : World) : Kd.C (Kd.slice 4 Kd.bool) (toyWorld w) (some ⟨w.heap.size + 2, 0, none⟩) 2 [[true, false, true], [false, true, true]] := by
  have h1 : (toyWorld w).heap[w.heap.size]? = some (.cells #[.bool true, .bool false, .bool true] 4 (0, 0)) := by
    unfold toyWorld
    rw [Below.heap_alloc _ _ _ (by simp; omega), Below.heap_alloc _ _ _ (by simp)]
    exact ChooseInk.heap_alloc_at _ _
  have h2 : (toyWorld w).heap[w.heap.size + 1]? = some (.cells #[.bool false, .bool true, .bool true] 4 (0, 0)) := by
    unfold toyWorld
    rw [Below.heap_alloc _ _ _ (by simp)]
    simpa using ChooseInk.heap_alloc_at (w.alloc (.cells #[.bool true, .bool false, .bool true] 4)) (.cells #[.bool false, .bool true, .bool true] 4)
  have h3 : (toyWorld w).heap[w.heap.size + 2]? = some (.cells #[.slice (some ⟨w.heap.size, 0, none⟩) 3 3, .slice (some ⟨w.heap.size + 1, 0, none⟩) 3 3] 31 (0, 0)) := by
    unfold toyWorld
    simpa using ChooseInk.heap_alloc_at ((w.alloc (.cells #[.bool true, .bool false, .bool true] 4)).alloc (.cells #[.bool false, .bool true, .bool true] 4)) (.cells #[.slice (some ⟨w.heap.size, 0, none⟩) 3 3, .slice (some ⟨w.heap.size + 1, 0, none⟩) 3 3] 31)
  exact C_two (C_three h1) (C_three h2) h3

theorem toy_choose (w : World) (hT : TabAt 1 Lib.deBruijn64tab w) :
    Calls Tryd.prog 4 #[.slice (some ⟨w.heap.size + 2, 0, none⟩) 2 2] (toyWorld w) (GivesE [2] 0 (toyWorld w)) := by
  have h := probe_any (m := [[true, false, true], [false, true, true]]) (cm := 2) (toyWorld w) (toy_C w) (by simp) (tab_below hT (toy_below w))
  rw [answer_toy] at h
  exact h

set_option maxHeartbeats 1000000 in
theorem chooses_any (w : World) (hT : TabAt 1 Lib.deBruijn64tab w) :
    Calls Tryd.prog 7 #[] w fun e w' => e = .returned (.bool true) ∧ Below w.heap.size w w' := by
  have HCALL := Lib.hid (toy_choose w hT)
  have HB := Lib.hid (toy_below w)
  clear hT
  go_enter Tryd.func7, Tryd.ntmps7
  go_wp2_with fail
  refine (HCALL.out).mono ?_
  rintro e w1 ⟨v, rfl, hrow, hb⟩
  have HB1 := Lib.hid (HB.out.trans (hb.mono HB.out.size))
  obtain ⟨A, c, rfl, hc, hC, _⟩ := hrow
  obtain ⟨ad, rfl, hcell⟩ := Kd.at_int hC 0 (by omega) (by simp)
  have hcell0 : w1.cell? ad = some (.int .i64 2) := hcell
  clear hcell hC hb hc
  go_wp2
  go_ret
  exact ⟨rfl, HB1.out⟩

end Go.Proofs.YtnagdebioaekoaaDoor.ChooseLaw
