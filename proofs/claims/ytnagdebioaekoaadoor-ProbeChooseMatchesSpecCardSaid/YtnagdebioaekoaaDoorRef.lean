/- The walk of the reference's Choose: ErrForm, ErrSize, or the first list that some number of columns gives. -/
import Derived.Test.YtnagdebioaekoaaDoorChosen
namespace Go.Proofs.YtnagdebioaekoaaDoor.ChooseRef
open Go.RowKit Go.Proofs.YtnagdebioaekoaaDoor.ChooseMath Go.Proofs.YtnagdebioaekoaaDoor.ChooseBits Go.Proofs.YtnagdebioaekoaaDoor.ChooseList Go.Proofs.YtnagdebioaekoaaDoor.ChooseEnough Go.Proofs.YtnagdebioaekoaaDoor.PProbeChooseMatchesSpec Go.Proofs.YtnagdebioaekoaaDoorW.PrintWords
set_option linter.unusedVariables false

/-- A list and an error. -/
def GivesE (l : List Nat) (no : Int) (w : World) (e : Ending) (w' : World) : Prop := ∃ v, e = .returned (.tuple #[v, .int .i64 no]) ∧ Row w' v l ∧ Below w.heap.size w w'

def rowLen (m : List (List Bool)) (i : Nat) : Nat := (m.getD i []).length

section
variable {m : List (List Bool)} {A : Option Addr} {cm : Nat}

set_option maxHeartbeats 1000000 in
theorem ref_form (w : World) (hC : Kd.C (Kd.slice 4 Kd.bool) w A m.length m) (hlen : m.length ≤ 5864062014634) (j : Nat) (hj : j < m.length) (hbad : rowLen m j ≠ rowLen m 0) :
    Calls Tryd.prog 6 #[.slice A m.length cm] w (GivesE [] 2 w) := by
  have HC := Lib.hid hC
  clear hC
  have HBAD := Lib.hid hbad
  clear hbad
  go_enter Tryd.func6, Tryd.ntmps6
  go_wp2
  go_loopw [4] (fun x wr => ∃ i : Nat, x = .int .i64 (i : Int) ∧ i ≤ j ∧ Drawn0 w wr) (fun x _ => j + 1 - (intOf x).toNat)
  case atStart => exact ⟨1, rfl, by have : j ≠ 0 := fun e => HBAD.out (by rw [e]); omega, Drawn0.refl _⟩
  case round =>
    obtain ⟨i, rfl, hij, n0, rfl⟩ := hrel
    have hi : i < m.length := by omega
    obtain ⟨ad, A0, c0, rfl, hcell, hl0, _⟩ := at_L2 HC.out (i : Int) (by omega) (by omega)
    obtain ⟨ad', A1, c1, e', hcell0, hl1, _⟩ := at_L2 HC.out (0 : Int) (by omega) (by omega)
    cases e'
    have e1 : (rd_L2 m (i : Int)).length = rowLen m i := by unfold rd_L2 rowLen; rw [Int.toNat_natCast]
    have e2 : (rd_L2 m (0 : Int)).length = rowLen m 0 := rfl
    rw [e1, Int.toNat_natCast] at hcell
    rw [e2, show (0 : Int).toNat = 0 from rfl] at hcell0
    have hz0 : w.cell? ad = some (.slice A1 (rowLen m 0) c1) := hcell0
    have p1 : ((i : Int) < (m.length : Int)) = True := eq_true (by omega)
    have p2 : ((0 : Int) < (m.length : Int)) = True := eq_true (by omega)
    have p3 : 0 < m.length := by omega
    clear hl0 hl1 e1 e2 hcell0
    by_cases hd : rowLen m i = rowLen m 0
    · have hdb : ((rowLen m i : Int) != (rowLen m 0 : Int)) = false := by rw [hd]; exact bne_self_eq_false _
      have hne : i ≠ j := fun e => HBAD.out (by rw [← e]; exact hd)
      have HD : Hid (i + 1 ≤ j) := Lib.hid (by omega)
      clear hd hne
      go_wp2
      go_quiet (fail)
      go_wp2
      go_roundw
      case rel => exact ⟨i + 1, by go_num, HD.out, by repeat (first | exact Drawn0.refl _ | apply Drawn0.step)⟩
      case measure => have := HD.out; simp [intOf]; omega
    · have hdb : ((rowLen m i : Int) != (rowLen m 0 : Int)) = true := by rw [bne_iff_ne]; omega
      clear hd
      go_wp2
      go_quiet (fail)
      go_wp2
      go_ret2
      exact ⟨_, rfl, row_nil _, Drawn0.below (by repeat (first | exact Drawn0.refl _ | apply Drawn0.step))⟩

set_option maxHeartbeats 2000000 in
theorem ref_many (w : World) (hC : Kd.C (Kd.slice 4 Kd.bool) w A m.length m) (hcm : m.length ≤ cm) (hlen : m.length ≤ 5864062014634) (hall : ∀ j, j < m.length → rowLen m j = rowLen m 0) (hbig : 2000 < m.length) :
    Calls Tryd.prog 6 #[.slice A m.length cm] w (GivesE [] 3 w) := by
  have HC := Lib.hid hC
  clear hC
  have HALL := Lib.hid hall
  clear hall
  go_enter Tryd.func6, Tryd.ntmps6
  go_wp2
  go_loopw [4] (fun x wr => ∃ i : Nat, x = .int .i64 (i : Int) ∧ i ≤ m.length + 1 ∧ Drawn0 w wr) (fun x _ => m.length + 1 - (intOf x).toNat)
  case atStart => exact ⟨1, rfl, by omega, Drawn0.refl _⟩
  case round =>
    obtain ⟨i, rfl, hij, n0, rfl⟩ := hrel
    by_cases hi : i < m.length
    · have hd := HALL.out i hi
      obtain ⟨ad, A0, c0, rfl, hcell, hl0, _⟩ := at_L2 HC.out (i : Int) (by omega) (by omega)
      obtain ⟨ad', A1, c1, e', hcell0, hl1, _⟩ := at_L2 HC.out (0 : Int) (by omega) (by omega)
      cases e'
      have e1 : (rd_L2 m (i : Int)).length = rowLen m i := by unfold rd_L2 rowLen; rw [Int.toNat_natCast]
      have e2 : (rd_L2 m (0 : Int)).length = rowLen m 0 := rfl
      rw [e1, Int.toNat_natCast] at hcell
      rw [e2, show (0 : Int).toNat = 0 from rfl] at hcell0
      have hz0 : w.cell? ad = some (.slice A1 (rowLen m 0) c1) := hcell0
      have p1 : ((i : Int) < (m.length : Int)) = True := eq_true (by omega)
      have p2 : ((0 : Int) < (m.length : Int)) = True := eq_true (by omega)
      have p3 : 0 < m.length := by omega
      clear hl0 hl1 e1 e2 hcell0
      have hdb : ((rowLen m i : Int) != (rowLen m 0 : Int)) = false := by rw [hd]; exact bne_self_eq_false _
      clear hd
      go_wp2
      go_quiet (fail)
      go_wp2
      go_roundw
      case rel => exact ⟨i + 1, by go_num, by omega, by repeat (first | exact Drawn0.refl _ | apply Drawn0.step)⟩
      case measure => simp [intOf]; omega
    · go_wp2
      go_ret2
      exact ⟨_, rfl, row_nil _, Drawn0.below (by repeat (first | exact Drawn0.refl _ | apply Drawn0.step))⟩

set_option maxHeartbeats 2000000 in
theorem ref_wide (w : World) (hC : Kd.C (Kd.slice 4 Kd.bool) w A m.length m) (hcm : m.length ≤ cm) (hlen : m.length ≤ 5864062014634) (hall : ∀ j, j < m.length → rowLen m j = rowLen m 0) (h0 : 0 < m.length) (hbig : m.length ≤ 2000) (hw : 16 < rowLen m 0) :
    Calls Tryd.prog 6 #[.slice A m.length cm] w (GivesE [] 3 w) := by
  have HC := Lib.hid hC
  clear hC
  have HALL := Lib.hid hall
  clear hall
  go_enter Tryd.func6, Tryd.ntmps6
  go_wp2
  go_loopw [4] (fun x wr => ∃ i : Nat, x = .int .i64 (i : Int) ∧ i ≤ m.length + 1 ∧ Drawn0 w wr) (fun x _ => m.length + 1 - (intOf x).toNat)
  case atStart => exact ⟨1, rfl, by omega, Drawn0.refl _⟩
  case round =>
    obtain ⟨i, rfl, hij, n0, rfl⟩ := hrel
    by_cases hi : i < m.length
    · have hd := HALL.out i hi
      obtain ⟨ad, A0, c0, rfl, hcell, hl0, _⟩ := at_L2 HC.out (i : Int) (by omega) (by omega)
      obtain ⟨ad', A1, c1, e', hcell0, hl1, _⟩ := at_L2 HC.out (0 : Int) (by omega) (by omega)
      cases e'
      have e1 : (rd_L2 m (i : Int)).length = rowLen m i := by unfold rd_L2 rowLen; rw [Int.toNat_natCast]
      have e2 : (rd_L2 m (0 : Int)).length = rowLen m 0 := rfl
      rw [e1, Int.toNat_natCast] at hcell
      rw [e2, show (0 : Int).toNat = 0 from rfl] at hcell0
      have hz0 : w.cell? ad = some (.slice A1 (rowLen m 0) c1) := hcell0
      have p1 : ((i : Int) < (m.length : Int)) = True := eq_true (by omega)
      have p2 : ((0 : Int) < (m.length : Int)) = True := eq_true (by omega)
      have p3 : 0 < m.length := by omega
      clear hl0 hl1 e1 e2 hcell0
      have hdb : ((rowLen m i : Int) != (rowLen m 0 : Int)) = false := by rw [hd]; exact bne_self_eq_false _
      clear hd
      go_wp2
      go_quiet (fail)
      go_wp2
      go_roundw
      case rel => exact ⟨i + 1, by go_num, by omega, by repeat (first | exact Drawn0.refl _ | apply Drawn0.step)⟩
      case measure => simp [intOf]; omega
    · obtain ⟨ad', A1, c1, e', hcell0, hl1, _⟩ := at_L2 HC.out (0 : Int) (by omega) (by omega)
      subst e'
      have e2 : (rd_L2 m (0 : Int)).length = rowLen m 0 := rfl
      rw [e2, show (0 : Int).toNat = 0 from rfl] at hcell0
      have hz0 : w.cell? ad' = some (.slice A1 (rowLen m 0) c1) := hcell0
      have p2 : ((0 : Int) < (m.length : Int)) = True := eq_true (by omega)
      have p3 : 0 < m.length := by omega
      clear hl1 e2 hcell0
      go_wp2
      go_ret2
      exact ⟨_, rfl, row_nil _, Drawn0.below (by repeat (first | exact Drawn0.refl _ | apply Drawn0.step))⟩

/-- What a head of the search knows. -/
def RRel (m : List (List Bool)) (n : Nat) (w : World) (x : Value) (wr : World) : Prop :=
  ∃ q : Nat, x = .int .i64 (q : Int) ∧ q ≤ n + 1 ∧ refFrom (enoughB m) n (n + 1 - q) q = refChoose m n ∧ Below w.heap.size w wr
theorem ref_step (n f q : Nat) : refFrom (enoughB m) n (f + 1) q = match chosenL (enoughB m) q n 0 [] with | some x => x | none => refFrom (enoughB m) n f (q + 1) := rfl
theorem ref_found {n q : Nat} {w w3 : World} {v3 : Value} (href : refFrom (enoughB m) n (n + 1 - q) q = refChoose m n) (hq : q ≤ n) (hopt : IsOpt (chosenL (enoughB m) q (n - 0) 0 []) true v3 w3) (hb : Below w.heap.size w w3) :
    GivesE (refChoose m n) 0 w (.returned (.tuple #[v3, .int .i64 0])) w3 := by
  refine ⟨v3, rfl, ?_, hb⟩
  rw [← href, show n + 1 - q = (n - q) + 1 by omega, ref_step]
  rw [Nat.sub_zero] at hopt
  cases h : chosenL (enoughB m) q n 0 [] with
  | none => rw [h] at hopt; exact absurd hopt (by simp [IsOpt])
  | some x => rw [h] at hopt; exact hopt.2
theorem ref_not {n q : Nat} {w3 : World} {v3 : Value} (href : refFrom (enoughB m) n (n + 1 - q) q = refChoose m n) (hq : q ≤ n) (hopt : IsOpt (chosenL (enoughB m) q (n - 0) 0 []) false v3 w3) :
    refFrom (enoughB m) n (n + 1 - (q + 1)) (q + 1) = refChoose m n := by
  rw [← href, show n + 1 - q = (n - q) + 1 by omega, ref_step, show n + 1 - (q + 1) = n - q by omega]
  rw [Nat.sub_zero] at hopt
  cases h : chosenL (enoughB m) q n 0 [] with
  | none => rfl
  | some x => rw [h] at hopt; exact absurd hopt (by simp [IsOpt])
theorem ref_end {n q : Nat} {w w3 : World} (href : refFrom (enoughB m) n (n + 1 - q) q = refChoose m n) (hq : ¬ q ≤ n) (hb : Below w.heap.size w w3) :
    GivesE (refChoose m n) 0 w (.returned (.tuple #[.slice none 0 0, .int .i64 0])) w3 := by
  refine ⟨_, rfl, ?_, hb⟩
  rw [← href, show n + 1 - q = 0 by omega]
  exact row_nil _

set_option maxHeartbeats 2000000 in
theorem ref_fine (w : World) (hC : Kd.C (Kd.slice 4 Kd.bool) w A m.length m) (hcm : m.length ≤ cm) (hlen : m.length ≤ 5864062014634) (hall : ∀ j, j < m.length → rowLen m j = rowLen m 0) (h0 : 0 < m.length) (hbig : m.length ≤ 2000) (n : Nat) (hn : rowLen m 0 = n) (hw : n ≤ 16) (hM : Mat m n A cm w) :
    Calls Tryd.prog 6 #[.slice A m.length cm] w (GivesE (refChoose m n) 0 w) := by
  have HM := Lib.hid hM
  clear hM
  have HN := Lib.hid hn
  clear hn
  have HC := Lib.hid hC
  clear hC
  have HALL := Lib.hid hall
  clear hall
  go_enter Tryd.func6, Tryd.ntmps6
  go_wp2
  go_loopw [4] (fun x wr => ∃ i : Nat, x = .int .i64 (i : Int) ∧ i ≤ m.length + 1 ∧ Drawn0 w wr) (fun x _ => m.length + 1 - (intOf x).toNat)
  case atStart => exact ⟨1, rfl, by omega, Drawn0.refl _⟩
  case round =>
    obtain ⟨i, rfl, hij, n0, rfl⟩ := hrel
    by_cases hi : i < m.length
    · have hd := HALL.out i hi
      obtain ⟨ad, A0, c0, rfl, hcell, hl0, _⟩ := at_L2 HC.out (i : Int) (by omega) (by omega)
      obtain ⟨ad', A1, c1, e', hcell0, hl1, _⟩ := at_L2 HC.out (0 : Int) (by omega) (by omega)
      cases e'
      have e1 : (rd_L2 m (i : Int)).length = rowLen m i := by unfold rd_L2 rowLen; rw [Int.toNat_natCast]
      have e2 : (rd_L2 m (0 : Int)).length = rowLen m 0 := rfl
      rw [e1, Int.toNat_natCast] at hcell
      rw [e2, show (0 : Int).toNat = 0 from rfl] at hcell0
      have hz0 : w.cell? ad = some (.slice A1 (rowLen m 0) c1) := hcell0
      have p1 : ((i : Int) < (m.length : Int)) = True := eq_true (by omega)
      have p2 : ((0 : Int) < (m.length : Int)) = True := eq_true (by omega)
      have p3 : 0 < m.length := by omega
      clear hl0 hl1 e1 e2 hcell0
      have hdb : ((rowLen m i : Int) != (rowLen m 0 : Int)) = false := by rw [hd]; exact bne_self_eq_false _
      clear hd
      go_wp2
      go_quiet (fail)
      go_wp2
      go_roundw
      case rel => exact ⟨i + 1, by go_num, by omega, by repeat (first | exact Drawn0.refl _ | apply Drawn0.step)⟩
      case measure => simp [intOf]; omega
    · obtain ⟨ad', A1, c1, e', hcell0, hl1, _⟩ := at_L2 HC.out (0 : Int) (by omega) (by omega)
      subst e'
      have e2 : (rd_L2 m (0 : Int)).length = rowLen m 0 := rfl
      rw [e2, HN.out, show (0 : Int).toNat = 0 from rfl] at hcell0
      have hz0 : w.cell? ad' = some (.slice A1 n c1) := hcell0
      have p2 : ((0 : Int) < (m.length : Int)) = True := eq_true (by omega)
      have p3 : 0 < m.length := by omega
      clear hl1 e2 hcell0
      go_wp2
      go_loopw [6, 7, 8] (fun x _ _ wr => RRel m n w x wr) (fun x _ _ _ => n + 1 - (intOf x).toNat)
      case atStart => exact ⟨0, rfl, by omega, rfl, Drawn0.below (by repeat (first | exact Drawn0.refl _ | apply Drawn0.step))⟩
      case round =>
        obtain ⟨q, rfl, hq, href, hbr⟩ := hrel
        have HREF := Lib.hid href
        have HBR := Lib.hid hbr
        have HMR := Lib.hid (HM.out.below hbr)
        clear href hbr
        by_cases hqn : q ≤ n
        · go_wp2_with fail
          refine (chosen_any q 0 [] (.slice none 0 0) _ (by omega) HMR.out (by simp; omega) (by omega) (fun a ha => by simp at ha) (row_nil _)).mono ?_
          rintro e w3 ⟨v3, b, rfl, hopt, hb3⟩
          have HB3 := Lib.hid (HBR.out.trans (hb3.mono HBR.out.size))
          clear hb3
          cases b with
          | true =>
            have HPOST := Lib.hid (ref_found HREF.out hqn hopt HB3.out)
            clear hopt
            go_wp2
            go_ret2
            exact HPOST.out
          | false =>
            have HPOST := Lib.hid (ref_not HREF.out hqn hopt)
            clear hopt
            go_wp2
            go_roundw
            case rel => exact ⟨q + 1, by go_num, by omega, HPOST.out, HB3.out⟩
            case measure => simp [intOf]; omega
        · go_wp2
          go_ret2
          exact ref_end HREF.out hqn HBR.out

theorem chosen_empty (w : World) (hM : Mat [] 0 A cm w) :
    Calls Tryd.prog 15 #[.slice A 0 cm, .slice none 0 0, .int .i64 0, .int .i64 0, .int .i64 0] w (Chose (chosenL (enoughB []) 0 (0 - 0) 0 []) w) :=
  chosen_any (n := 0) 0 0 [] (.slice none 0 0) w (Nat.le_refl _) hM (by simp) (by omega) (fun a ha => by simp at ha) (row_nil _)

set_option maxHeartbeats 2000000 in
theorem ref_empty (w : World) (hM : Mat [] 0 A cm w) :
    Calls Tryd.prog 6 #[.slice A 0 cm] w (GivesE (refChoose [] 0) 0 w) := by
  have HM := Lib.hid hM
  clear hM
  go_enter Tryd.func6, Tryd.ntmps6
  go_wp2
  refine wp_loop_rounds 1 ?_
  rw [rounds_succ]
  go_wp2
  go_loopw [6, 7, 8] (fun x _ _ wr => RRel [] 0 w x wr) (fun x _ _ _ => 0 + 1 - (intOf x).toNat)
  case atStart => exact ⟨0, rfl, by omega, rfl, Below.refl _ _⟩
  case round =>
    obtain ⟨q, rfl, hq, href, hbr⟩ := hrel
    have HREF := Lib.hid href
    have HBR := Lib.hid hbr
    have HMR := Lib.hid (HM.out.below hbr)
    clear href hbr
    by_cases hqn : q = 0
    · subst hqn
      go_wp2_with fail
      refine (chosen_empty _ HMR.out).mono ?_
      rintro e w3 ⟨v3, b, rfl, hopt, hb3⟩
      have HB3 := Lib.hid (HBR.out.trans (hb3.mono HBR.out.size))
      clear hb3
      cases b with
      | true =>
        have HPOST := Lib.hid (ref_found HREF.out (Nat.le_refl _) hopt HB3.out)
        clear hopt
        go_wp2
        go_ret2
        exact HPOST.out
      | false =>
        have HPOST := Lib.hid (ref_not HREF.out (Nat.le_refl _) hopt)
        clear hopt
        go_wp2
        go_roundw
        case rel => exact ⟨1, by go_num, by omega, HPOST.out, HB3.out⟩
        case measure => simp [intOf]
    · obtain rfl : q = 1 := by omega
      go_wp2
      go_ret2
      exact ref_end HREF.out (by omega) HBR.out

end

end Go.Proofs.YtnagdebioaekoaaDoor.ChooseRef
