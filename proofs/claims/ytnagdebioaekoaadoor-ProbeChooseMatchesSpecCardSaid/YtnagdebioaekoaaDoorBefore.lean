/- The walk of the order on sets: fewer columns first, of equally many the list that comes first. -/
import Derived.Test.YtnagdebioaekoaaDoorListOf
namespace Go.Proofs.YtnagdebioaekoaaDoor.ChooseList
open Go.RowKit Go.Proofs.YtnagdebioaekoaaDoor.ChooseMath Go.Proofs.YtnagdebioaekoaaDoor.ChooseBits Go.Proofs.YtnagdebioaekoaaDoorW.PrintWords
set_option linter.unusedVariables false

theorem own_C {w : World} {base : Nat} {v : Value} {l : List Nat} (h : w.ownsRow base 3 1 v l.length (vals l)) : ∃ A c, v = .slice A l.length c ∧ l.length ≤ c ∧ Kd.C (Kd.int .i64) w A l.length (ints l) := by
  have h1 : (Kd.int .i64).R 3 w base (fun _ => True) v (ints l) := Kd.R_of_own (by rw [ints_len]; exact h) (fun _ _ => trivial)
  obtain ⟨A, c, e, hl, hc⟩ := Kd.R_reads h1
  rw [ints_len] at e hl hc
  exact ⟨A, c, e, hl, hc⟩

set_option maxHeartbeats 1000000 in
theorem before_any (a b : Nat) (ha : a < 65536) (hb : b < 65536) (w : World) (hT : TabAt 1 Lib.deBruijn64tab w) :
    Calls Tryd.prog 10 #[.int .u64 (a : Int), .int .u64 (b : Int)] w fun e w' => e = .returned (.bool (beforeN a b)) ∧ Below w.heap.size w w' := by
  have la := bits_le a
  have lb := bits_le b
  have HT := Lib.hid hT
  have HB : Hid (beforeN a b = (decide ((bitsOf a).length < (bitsOf b).length) || ((bitsOf a).length == (bitsOf b).length && lexlt (bitsOf a) (bitsOf b)))) := Lib.hid rfl
  clear hT
  by_cases hn : (bitsOf a).length = (bitsOf b).length
  · have hne : (((bitsOf a).length : Int) != ((bitsOf b).length : Int)) = false := by rw [hn]; exact bne_self_eq_false _
    have HN := Lib.hid hn
    clear hn
    go_enter Tryd.func10, Tryd.ntmps10
    go_wp2_with fail
    refine (count_any a ha _).mono ?_
    rintro e w' ⟨rfl, rfl⟩
    go_wp2_with fail
    refine (count_any b hb _).mono ?_
    rintro e w' ⟨rfl, rfl⟩
    go_wp2_with fail
    refine (list_any a ha _ HT.out).mono ?_
    rintro e w1 ⟨v1, rfl, hown1, hb1⟩
    have HO1 := Lib.hid hown1
    clear hown1
    go_wp2_with fail
    refine (list_any b hb _ (tab_below HT.out hb1)).mono ?_
    rintro e w2 ⟨v2, rfl, hown2, hb2⟩
    obtain ⟨A1, c1, rfl, _, hC1⟩ := own_C HO1.out
    obtain ⟨A2, c2, rfl, _, hC2⟩ := own_C hown2
    clear hown2
    have hC1' := Kd.C_below hC1 hb2
    have HC1 := Lib.hid hC1'
    have HC2 := Lib.hid hC2
    clear hC1 hC1' hC2
    go_wp2_with fail
    refine (compare_any A1 c1 (bitsOf a) A2 c2 (bitsOf b) (by omega) (by omega) _ HC1.out HC2.out).mono ?_
    rintro e w3 ⟨r, rfl, hr, rfl⟩
    have HR := Lib.hid hr
    clear hr
    go_wp2
    go_ret
    exact ⟨by rw [HB.out, HR.out, HN.out]; simp, hb1.trans (hb2.mono hb1.size)⟩
  · have hne : (((bitsOf a).length : Int) != ((bitsOf b).length : Int)) = true := by rw [bne_iff_ne]; omega
    have HN := Lib.hid hn
    clear hn
    go_enter Tryd.func10, Tryd.ntmps10
    go_wp2_with fail
    refine (count_any a ha _).mono ?_
    rintro e w' ⟨rfl, rfl⟩
    go_wp2_with fail
    refine (count_any b hb _).mono ?_
    rintro e w' ⟨rfl, rfl⟩
    go_wp2
    go_ret
    refine ⟨?_, Below.refl _ _⟩
    rw [HB.out]
    have := HN.out
    simp [this]

end Go.Proofs.YtnagdebioaekoaaDoor.ChooseList
