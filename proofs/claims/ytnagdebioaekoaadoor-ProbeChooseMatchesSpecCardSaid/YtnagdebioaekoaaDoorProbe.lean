/- The walk of the program's Choose: its errors, and the empty matrix. -/
import Derived.Test.YtnagdebioaekoaaDoorRef
import Derived.Test.YtnagdebioaekoaaDoorCovers
namespace Go.Proofs.YtnagdebioaekoaaDoor.ChooseProbe
open Go.RowKit Go.Maps Go.Proofs.YtnagdebioaekoaaDoor.ChooseMath Go.Proofs.YtnagdebioaekoaaDoor.ChooseBits Go.Proofs.YtnagdebioaekoaaDoor.ChooseList Go.Proofs.YtnagdebioaekoaaDoor.ChooseRef Go.Proofs.YtnagdebioaekoaaDoor.PProbeChooseMatchesSpec Go.Proofs.YtnagdebioaekoaaDoorW.PrintWords
set_option linter.unusedVariables false

section
variable {m : List (List Bool)} {A : Option Addr} {cm : Nat}

set_option maxHeartbeats 1000000 in
theorem probe_form (w : World) (hC : Kd.C (Kd.slice 4 Kd.bool) w A m.length m) (hlen : m.length ≤ 5864062014634) (j : Nat) (hj : j < m.length) (hbad : ChooseRef.rowLen m j ≠ ChooseRef.rowLen m 0) :
    Calls Tryd.prog 4 #[.slice A m.length cm] w (GivesE [] 2 w) := by
  have HC := Lib.hid hC
  clear hC
  have HBAD := Lib.hid hbad
  clear hbad
  go_enter Tryd.func4, Tryd.ntmps4
  go_wp2
  go_loop [17] (fun x => ∃ i : Nat, x = .int .i64 (i : Int) ∧ i ≤ j) (fun x => j + 1 - (intOf x).toNat)
  case atStart => exact ⟨0, rfl, Nat.zero_le _⟩
  case round =>
    obtain ⟨i, rfl, hij⟩ := hrel
    have hi : i < m.length := by omega
    obtain ⟨ad, A0, c0, rfl, hcell, hl0, _⟩ := at_L2 HC.out (i : Int) (by omega) (by omega)
    obtain ⟨ad', A1, c1, e', hcell0, hl1, _⟩ := at_L2 HC.out (0 : Int) (by omega) (by omega)
    cases e'
    have e1 : (rd_L2 m (i : Int)).length = ChooseRef.rowLen m i := by unfold rd_L2 ChooseRef.rowLen; rw [Int.toNat_natCast]
    have e2 : (rd_L2 m (0 : Int)).length = ChooseRef.rowLen m 0 := rfl
    rw [e1, Int.toNat_natCast] at hcell
    rw [e2, show (0 : Int).toNat = 0 from rfl] at hcell0
    have hz0 : w.cell? ad = some (.slice A1 (ChooseRef.rowLen m 0) c1) := hcell0
    have p1 : ((i : Int) < (m.length : Int)) = True := eq_true (by omega)
    have p2 : ((0 : Int) < (m.length : Int)) = True := eq_true (by omega)
    have p3 : 0 < m.length := by omega
    clear hl0 hl1 e1 e2 hcell0
    by_cases hd : ChooseRef.rowLen m i = ChooseRef.rowLen m 0
    · have hdb : ((ChooseRef.rowLen m i : Int) != (ChooseRef.rowLen m 0 : Int)) = false := by rw [hd]; exact bne_self_eq_false _
      have hne : i ≠ j := fun e => HBAD.out (by rw [← e]; exact hd)
      have HD : Hid (i + 1 ≤ j) := Lib.hid (by omega)
      clear hd hne
      go_wp2
      go_round
      case rel => exact ⟨i + 1, by go_num, HD.out⟩
      case measure => have := HD.out; simp [intOf]; omega
    · have hdb : ((ChooseRef.rowLen m i : Int) != (ChooseRef.rowLen m 0 : Int)) = true := by rw [bne_iff_ne]; omega
      clear hd
      go_wp2
      go_ret2
      exact ⟨_, rfl, row_nil _, Below.refl _ _⟩

set_option maxHeartbeats 2000000 in
theorem probe_many (w : World) (hC : Kd.C (Kd.slice 4 Kd.bool) w A m.length m) (hlen : m.length ≤ 5864062014634) (hall : ∀ j, j < m.length → ChooseRef.rowLen m j = ChooseRef.rowLen m 0) (hbig : 2000 < m.length) :
    Calls Tryd.prog 4 #[.slice A m.length cm] w (GivesE [] 3 w) := by
  have HC := Lib.hid hC
  clear hC
  have HALL := Lib.hid hall
  clear hall
  go_enter Tryd.func4, Tryd.ntmps4
  go_wp2
  go_loop [17] (fun x => ∃ i : Nat, x = .int .i64 (i : Int) ∧ i ≤ m.length) (fun x => m.length + 1 - (intOf x).toNat)
  case atStart => exact ⟨0, rfl, Nat.zero_le _⟩
  case round =>
    obtain ⟨i, rfl, hij⟩ := hrel
    by_cases hi : i < m.length
    · have hd := HALL.out i hi
      obtain ⟨ad, A0, c0, rfl, hcell, hl0, _⟩ := at_L2 HC.out (i : Int) (by omega) (by omega)
      obtain ⟨ad', A1, c1, e', hcell0, hl1, _⟩ := at_L2 HC.out (0 : Int) (by omega) (by omega)
      cases e'
      have e1 : (rd_L2 m (i : Int)).length = ChooseRef.rowLen m i := by unfold rd_L2 ChooseRef.rowLen; rw [Int.toNat_natCast]
      have e2 : (rd_L2 m (0 : Int)).length = ChooseRef.rowLen m 0 := rfl
      rw [e1, Int.toNat_natCast] at hcell
      rw [e2, show (0 : Int).toNat = 0 from rfl] at hcell0
      have hz0 : w.cell? ad = some (.slice A1 (ChooseRef.rowLen m 0) c1) := hcell0
      have p1 : ((i : Int) < (m.length : Int)) = True := eq_true (by omega)
      have p2 : ((0 : Int) < (m.length : Int)) = True := eq_true (by omega)
      have p3 : 0 < m.length := by omega
      clear hl0 hl1 e1 e2 hcell0
      have hdb : ((ChooseRef.rowLen m i : Int) != (ChooseRef.rowLen m 0 : Int)) = false := by rw [hd]; exact bne_self_eq_false _
      clear hd
      go_wp2
      go_round
      case rel => exact ⟨i + 1, by go_num, by omega⟩
      case measure => simp [intOf]; omega
    · go_wp2
      go_ret2
      exact ⟨_, rfl, row_nil _, Below.refl _ _⟩

set_option maxHeartbeats 2000000 in
theorem probe_wide (w : World) (hC : Kd.C (Kd.slice 4 Kd.bool) w A m.length m) (hlen : m.length ≤ 5864062014634) (hall : ∀ j, j < m.length → ChooseRef.rowLen m j = ChooseRef.rowLen m 0) (h0 : 0 < m.length) (hbig : m.length ≤ 2000) (hw : 16 < ChooseRef.rowLen m 0) :
    Calls Tryd.prog 4 #[.slice A m.length cm] w (GivesE [] 3 w) := by
  have HC := Lib.hid hC
  clear hC
  have HALL := Lib.hid hall
  clear hall
  go_enter Tryd.func4, Tryd.ntmps4
  go_wp2
  go_loop [17] (fun x => ∃ i : Nat, x = .int .i64 (i : Int) ∧ i ≤ m.length) (fun x => m.length + 1 - (intOf x).toNat)
  case atStart => exact ⟨0, rfl, Nat.zero_le _⟩
  case round =>
    obtain ⟨i, rfl, hij⟩ := hrel
    by_cases hi : i < m.length
    · have hd := HALL.out i hi
      obtain ⟨ad, A0, c0, rfl, hcell, hl0, _⟩ := at_L2 HC.out (i : Int) (by omega) (by omega)
      obtain ⟨ad', A1, c1, e', hcell0, hl1, _⟩ := at_L2 HC.out (0 : Int) (by omega) (by omega)
      cases e'
      have e1 : (rd_L2 m (i : Int)).length = ChooseRef.rowLen m i := by unfold rd_L2 ChooseRef.rowLen; rw [Int.toNat_natCast]
      have e2 : (rd_L2 m (0 : Int)).length = ChooseRef.rowLen m 0 := rfl
      rw [e1, Int.toNat_natCast] at hcell
      rw [e2, show (0 : Int).toNat = 0 from rfl] at hcell0
      have hz0 : w.cell? ad = some (.slice A1 (ChooseRef.rowLen m 0) c1) := hcell0
      have p1 : ((i : Int) < (m.length : Int)) = True := eq_true (by omega)
      have p2 : ((0 : Int) < (m.length : Int)) = True := eq_true (by omega)
      have p3 : 0 < m.length := by omega
      clear hl0 hl1 e1 e2 hcell0
      have hdb : ((ChooseRef.rowLen m i : Int) != (ChooseRef.rowLen m 0 : Int)) = false := by rw [hd]; exact bne_self_eq_false _
      clear hd
      go_wp2
      go_round
      case rel => exact ⟨i + 1, by go_num, by omega⟩
      case measure => simp [intOf]; omega
    · obtain ⟨ad', A1, c1, e', hcell0, hl1, _⟩ := at_L2 HC.out (0 : Int) (by omega) (by omega)
      subst e'
      have e2 : (rd_L2 m (0 : Int)).length = ChooseRef.rowLen m 0 := rfl
      rw [e2, show (0 : Int).toNat = 0 from rfl] at hcell0
      have hz0 : w.cell? ad' = some (.slice A1 (ChooseRef.rowLen m 0) c1) := hcell0
      have p2 : ((0 : Int) < (m.length : Int)) = True := eq_true (by omega)
      have p3 : 0 < m.length := by omega
      clear hl1 e2 hcell0
      go_wp2
      go_ret2
      exact ⟨_, rfl, row_nil _, Below.refl _ _⟩

set_option maxHeartbeats 1000000 in
theorem probe_empty (w : World) :
    Calls Tryd.prog 4 #[.slice A 0 cm] w (GivesE [] 0 w) := by
  go_enter Tryd.func4, Tryd.ntmps4
  go_wp2
  refine wp_loop_rounds 1 ?_
  rw [rounds_succ]
  go_wp2
  go_ret2
  exact ⟨_, rfl, row_nil _, Below.refl _ _⟩
end

end Go.Proofs.YtnagdebioaekoaaDoor.ChooseProbe
