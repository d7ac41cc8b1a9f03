/- The walks of what writes a list of numbers and an error: the text is a function of them. -/
import Derived.Test.YtnagdebioaekoaaDoorInk
namespace Go.Proofs.YtnagdebioaekoaaDoor.ChooseInk
open Go.RowKit Go.Proofs.YtnagdebioaekoaaDoor.ChooseMath Go.Proofs.YtnagdebioaekoaaDoor.ChooseBits Go.Proofs.YtnagdebioaekoaaDoor.ChooseList Go.Proofs.YtnagdebioaekoaaDoorW.PrintWords
set_option linter.unusedVariables false

def numsOf (l : List Nat) : List UInt8 := l.flatMap fun a => num (Int.ofNat a)
theorem numsOf_step {l : List Nat} {i : Nat} (h : i < l.length) : numsOf (l.take (i + 1)) = numsOf (l.take i) ++ num ((l.getD i 0 : Nat) : Int) := by
  unfold numsOf
  rw [List.take_succ_eq_append_getElem h, List.flatMap_append]
  simp [List.getD_eq_getElem?_getD, h]
theorem num_le (a : Nat) (h : a < 1000) : (num (a : Int)).length ≤ 22 := by
  have := Lib.itoa_length_le (a : Int) (by omega) (by omega)
  rw [num_len]; omega
theorem numsOf_le : ∀ (l : List Nat), (∀ a ∈ l, a < 1000) → (numsOf l).length ≤ 22 * l.length
  | [], _ => by simp [numsOf]
  | a :: l, h => by
    have h1 : (num (Int.ofNat a)).length ≤ 22 := num_le a (h a List.mem_cons_self)
    have h2 := numsOf_le l fun b hb => h b (List.mem_cons_of_mem _ hb)
    unfold numsOf at *
    rw [List.flatMap_cons, List.length_append, List.length_cons]
    omega

theorem errno_any (B g : Nat) (bs : List UInt8) (i : Int) (h0 : -9223372036854775808 ≤ i) (h1 : i ≤ 9223372036854775807) (w : World) (hk : IsInk w B g bs) (hl : bs.length ≤ 1000000) (hT : T10 B w) :
    Calls Tryd.prog 13 #[.pointer (some ⟨g, 0, none⟩), .int .i64 i] w fun e w' => e = .returned (.tuple #[]) ∧ IsInk w' B g (bs ++ num i) ∧ Below B w w' := by
  have HT := Lib.hid hT
  have HK := Lib.hid hk
  clear hT hk
  go_enter Tryd.func13, Tryd.ntmps13
  go_wp2_with fail
  refine (int_any B g bs i h0 h1 _ HK.out hl HT.out).mono ?_
  rintro e w1 ⟨rfl, hk1, hb1⟩
  have HK1 := Lib.hid hk1
  clear hk1
  go_wp2
  go_end0
  exact ⟨rfl, HK1.out, hb1⟩

def HRel (l : List Nat) (w0 w : World) (g : Nat) (v : Value) (wr : World) : Prop := ∃ i : Nat, v = .int .i64 (i : Int) ∧ i ≤ l.length ∧ IsInk wr w0.heap.size g (num (l.length : Int) ++ numsOf (l.take i)) ∧ Below w0.heap.size w wr

set_option maxHeartbeats 1000000 in
theorem ints_any (w0 : World) (g : Nat) (A : Option Addr) (c : Nat) (l : List Nat) (hl : l.length ≤ 100) (hsm : ∀ a ∈ l, a < 1000) (w : World) (hb0 : Below w0.heap.size w0 w) (hC : Kd.C (Kd.int .i64) w0 A l.length (ints l)) (hk : IsInk w w0.heap.size g []) (hT : T10 w0.heap.size w) :
    Calls Tryd.prog 12 #[.pointer (some ⟨g, 0, none⟩), .slice A l.length c] w fun e w' => e = .returned (.tuple #[]) ∧ IsInk w' w0.heap.size g (num (l.length : Int) ++ numsOf l) ∧ Below w0.heap.size w w' := by
  have HT := Lib.hid hT
  have HK := Lib.hid hk
  have HC := Lib.hid hC
  have HB0 := Lib.hid hb0
  have HSM := Lib.hid hsm
  clear hT hk hC hb0 hsm
  go_enter Tryd.func12, Tryd.ntmps12
  go_wp2_with fail
  refine (int_any w0.heap.size g [] (l.length : Int) (by omega) (by omega) _ HK.out (by simp) HT.out).mono ?_
  rintro e w1 ⟨rfl, hk1, hb1⟩
  have HK1 := Lib.hid hk1
  clear hk1
  go_wp2
  go_loopw [4] (fun v wr => HRel l w0 w g v wr) (fun v _ => l.length - (intOf v).toNat)
  case atStart => exact ⟨0, rfl, Nat.zero_le _, by simpa [numsOf] using HK1.out, hb1⟩
  case round =>
    obtain ⟨i, rfl, hi, hki, hbi⟩ := hrel
    have HKI := Lib.hid hki
    clear hki
    by_cases hlt : i < l.length
    · have hCw := Kd.C_below HC.out (HB0.out.trans hbi)
      obtain ⟨ad, rfl, hc⟩ := Kd.at_int hCw (i : Int) (by omega) (by omega)
      have hrd : rd (ints l) (i : Int) = ((l.getD i 0 : Nat) : Int) := rd_ints l i
      rw [hrd, Int.toNat_natCast] at hc
      have hmem : l.getD i 0 < 1000 := by
        rw [List.getD_eq_getElem?_getD, List.getElem?_eq_getElem hlt]
        exact HSM.out _ (List.getElem_mem hlt)
      have hle1 := num_le l.length (by omega)
      have hle2 := numsOf_le (l.take i) fun a ha => HSM.out a (List.mem_of_mem_take ha)
      have hle3 : (l.take i).length ≤ 100 := by rw [List.length_take]; omega
      have HNS := Lib.hid (numsOf_step hlt)
      have HLE : Hid ((num (l.length : Int) ++ numsOf (l.take i)).length ≤ 1000000) := Lib.hid (by rw [List.length_append]; omega)
      generalize l.getD i 0 = a at *
      clear hrd hCw hle1 hle2 hle3
      go_wp2_with fail
      refine (int_any w0.heap.size g (num (l.length : Int) ++ numsOf (l.take i)) (a : Int) (by omega) (by omega) _ HKI.out HLE.out (HT.out.on hbi)).mono ?_
      rintro e w2 ⟨rfl, hk2, hb2⟩
      have HK2 := Lib.hid hk2
      clear hk2 hc
      go_wp2
      go_roundw
      case rel => exact ⟨i + 1, by go_num, by omega, by rw [HNS.out, ← List.append_assoc]; exact HK2.out, hbi.trans hb2⟩
      case measure => simp [intOf]; omega
    · have e : l.take i = l := List.take_of_length_le (by omega)
      have HE := Lib.hid e
      clear e
      go_wp2
      go_end0
      exact ⟨rfl, by rw [← HE.out]; rw [HE.out] at HKI ⊢; exact HKI.out, hbi⟩

def strOf (bs : List UInt8) : ByteArray := strOfNums (bs.map fun b => (b.toNat : Int))
/-- The text of a list and an error. -/
def text (l : List Nat) (e : Int) : ByteArray := strOf (num (l.length : Int) ++ numsOf l ++ num e)
theorem heap_alloc_at (w : World) (o : Obj) : (w.alloc o).heap[w.heap.size]? = some o := by
  show (w.heap.push o)[w.heap.size]? = some o
  simp

set_option maxHeartbeats 1000000 in
theorem told_ink (B g : Nat) (bs : List UInt8) (w : World) (hk : IsInk w B g bs) :
    Calls Tryd.prog 14 #[.pointer (some ⟨g, 0, none⟩)] w fun e w' => e = .returned (.string (strOf bs)) ∧ w = w' := by
  obtain ⟨hBg, v, hg, hown⟩ := hk
  have hcell := cell_of_one hg
  have h1 : (Kd.int .u8).R 5 w B (fun _ => True) v (bs.map fun b => (b.toNat : Int)) := Kd.R_of_own (by rw [List.length_map, show encs (Value.int .u8) (bs.map fun b => (b.toNat : Int)) = Lib.byteCells bs by unfold encs Lib.byteCells; rw [List.map_map]; rfl]; exact hown) (fun _ _ => trivial)
  obtain ⟨A, c, rfl, hl, hC⟩ := Kd.R_reads h1
  have hconv := Kd.C_string (P := Tryd.prog) (src := 38) (dst := 9) (e := 5) (c := c) Tryd.underlying38 Tryd.underlying5 Tryd.underlying9 hC
  clear hg hown h1 hC hl
  rw [List.length_map] at *
  go_enter Tryd.func14, Tryd.ntmps14
  go_wp2
  go_ret
  exact ⟨rfl, rfl⟩

set_option maxHeartbeats 1000000 in
theorem told_any (A : Option Addr) (c : Nat) (l : List Nat) (e : Int) (h0 : 0 ≤ e) (h1 : e < 1000) (hl : l.length ≤ 100) (hsm : ∀ a ∈ l, a < 1000) (w : World) (hC : Kd.C (Kd.int .i64) w A l.length (ints l)) (hT : T10 w.heap.size w) :
    Calls Tryd.prog 5 #[.slice A l.length c, .int .i64 e] w fun E w' => E = .returned (.string (text l e)) ∧ Below w.heap.size w w' := by
  have HT := Lib.hid hT
  have HC := Lib.hid hC
  have HSM := Lib.hid hsm
  clear hT hC hsm
  have hk0 : IsInk (w.alloc (.cells #[.slice none 0 0] 40)) w.heap.size w.heap.size [] := ⟨Nat.le_refl _, _, heap_alloc_at w _, ⟨rfl, .inl ⟨rfl, rfl⟩⟩⟩
  have HK0 := Lib.hid hk0
  have hb0 : Below w.heap.size w (w.alloc (.cells #[.slice none 0 0] 40)) := (Below.refl _ _).alloc (Nat.le_refl _) _
  have HB0 := Lib.hid hb0
  have HLE : Hid ((num (l.length : Int) ++ numsOf l).length ≤ 1000000) := Lib.hid (by
    have hle1 := num_le l.length (by omega)
    have hle2 := numsOf_le l HSM.out
    rw [List.length_append]; omega)
  clear hk0 hb0
  go_enter Tryd.func5, Tryd.ntmps5
  go_wp2_with fail
  refine (ints_any w w.heap.size A c l hl HSM.out _ HB0.out HC.out HK0.out (HT.out.on HB0.out)).mono ?_
  rintro E w1 ⟨rfl, hk1, hb1⟩
  have HK1 := Lib.hid hk1
  have HB1 := Lib.hid (HB0.out.trans hb1)
  clear hk1 hb1
  go_wp2_with fail
  refine (errno_any w.heap.size w.heap.size _ e (by omega) (by omega) _ HK1.out HLE.out (HT.out.on HB1.out)).mono ?_
  rintro E w2 ⟨rfl, hk2, hb2⟩
  have HK2 := Lib.hid hk2
  have HB2 := Lib.hid (HB1.out.trans hb2)
  clear hk2 hb2
  go_wp2_with fail
  refine (told_ink w.heap.size w.heap.size _ _ HK2.out).mono ?_
  rintro E w3 ⟨rfl, rfl⟩
  go_wp2
  go_ret
  exact ⟨by unfold text; rw [List.append_assoc]; rfl, HB2.out⟩

end Go.Proofs.YtnagdebioaekoaaDoor.ChooseInk
