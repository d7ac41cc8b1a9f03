/- The walk of slices.Compare on two rows of small numbers: it is negative exactly if the first list comes first. -/
import Derived.Test.YtnagdebioaekoaaDoorList
namespace Go.Proofs.YtnagdebioaekoaaDoor.ChooseList
open Go.RowKit Go.Proofs.YtnagdebioaekoaaDoor.ChooseMath Go.Proofs.YtnagdebioaekoaaDoor.ChooseBits Go.Proofs.YtnagdebioaekoaaDoorW.PrintWords
set_option linter.unusedVariables false

def IsCmp (L : Bool) (w : World) (e : Ending) (w' : World) : Prop := ∃ r : Int, e = .returned (.int .i64 r) ∧ decide (r < 0) = L ∧ w = w'

theorem rd_ints (l : List Nat) (x : Int) : rd (ints l) x = ((l.getD x.toNat 0 : Nat) : Int) := by
  unfold rd ints
  simp only [List.getD_eq_getElem?_getD, List.getElem?_map]
  cases l[x.toNat]? <;> rfl
theorem drop_at {l : List Nat} {i : Nat} (h : i < l.length) : l.drop i = l.getD i 0 :: l.drop (i + 1) := by
  rw [List.drop_eq_getElem_cons h]
  simp [List.getD_eq_getElem?_getD, h]
theorem ints_len (l : List Nat) : (ints l).length = l.length := List.length_map ..

theorem lex_on {a b : List Nat} {x : Int} (h0 : 0 ≤ x) (h1 : x < a.length) (h2 : x < b.length) :
    (cmp (rd (ints a) x) (rd (ints b) x) = 0 ∧ lexlt (a.drop x.toNat) (b.drop x.toNat) = lexlt (a.drop (x + 1).toNat) (b.drop (x + 1).toNat)) ∨
    (cmp (rd (ints a) x) (rd (ints b) x) ≠ 0 ∧ decide (cmp (rd (ints a) x) (rd (ints b) x) < 0) = lexlt (a.drop x.toNat) (b.drop x.toNat)) := by
  rw [rd_ints, rd_ints, drop_at (l := a) (i := x.toNat) (by omega), drop_at (l := b) (i := x.toNat) (by omega), show (x + 1).toNat = x.toNat + 1 by omega]
  generalize a.getD x.toNat 0 = p
  generalize b.getD x.toNat 0 = q
  simp only [lexlt]
  rcases Nat.lt_trichotomy p q with h | h | h
  · right
    have c : cmp (p : Int) (q : Int) = -1 := if_pos (by omega)
    rw [c]
    simp [h]
  · left
    subst h
    have c : cmp (p : Int) (p : Int) = 0 := by unfold cmp; rw [if_neg (by omega), if_neg (by omega)]
    rw [c]
    simp
  · right
    have c : cmp (p : Int) (q : Int) = 1 := by unfold cmp; rw [if_neg (by omega), if_pos (by omega)]
    have h3 : ¬ p < q := by omega
    have h4 : ¬ p = q := by omega
    rw [c]
    simp [h3, h4]

theorem lex_end {a b : List Nat} {x : Int} (h0 : 0 ≤ x) (h1 : x < a.length) (h2 : ¬ x < b.length) : lexlt (a.drop x.toNat) (b.drop x.toNat) = false := by
  rw [List.drop_eq_nil_of_le (show b.length ≤ x.toNat by omega)]
  cases a.drop x.toNat <;> rfl
theorem lex_end2 {a b : List Nat} {x : Int} (h0 : 0 ≤ x) (h1 : ¬ x < a.length) (hx : x ≤ a.length) : lexlt (a.drop x.toNat) (b.drop x.toNat) = decide (a.length < b.length) := by
  rw [List.drop_eq_nil_of_le (show a.length ≤ x.toNat by omega)]
  by_cases h : a.length < b.length
  · rw [drop_at (l := b) (i := x.toNat) (by omega)]
    simp [lexlt, h]
  · rw [List.drop_eq_nil_of_le (show b.length ≤ x.toNat by omega)]
    simp [lexlt, h]

set_option maxHeartbeats 1000000 in
theorem compare_any (A : Option Addr) (c : Nat) (a : List Nat) (B : Option Addr) (d : Nat) (b : List Nat) (ha : a.length ≤ 1000) (hb : b.length ≤ 1000) (w : World)
    (hA : Kd.C (Kd.int .i64) w A a.length (ints a)) (hB : Kd.C (Kd.int .i64) w B b.length (ints b)) :
    Calls Tryd.prog 17 #[.slice A a.length c, .slice B b.length d] w (IsCmp (lexlt a b) w) := by
  have HA := Lib.hid hA
  have HB := Lib.hid hB
  clear hA hB
  go_enter Tryd.func17, Tryd.ntmps17
  go_wp2
  go_loop [11] (fun v => ∃ x : Int, 0 ≤ x ∧ x ≤ a.length ∧ v = .int .i64 x ∧ Hid (lexlt (a.drop x.toNat) (b.drop x.toNat) = lexlt a b)) (fun v => a.length - (intOf v).toNat)
  case atStart => exact ⟨0, by omega, by omega, rfl, Lib.hid rfl⟩
  case round =>
    obtain ⟨x, h0, hx, rfl, hL⟩ := hrel
    by_cases hlt : x < a.length
    · obtain ⟨ad, rfl, hc1⟩ := Kd.at_int HA.out x h0 hlt
      by_cases hlb : x < b.length
      · obtain ⟨bd, rfl, hc2⟩ := Kd.at_int HB.out x h0 hlb
        have hon := lex_on h0 hlt hlb
        generalize rd (ints a) x = p at *
        generalize rd (ints b) x = q at *
        rcases hon with ⟨hz, hon⟩ | ⟨hz, hon⟩
        · have hz1 : (cmp p q != 0) = false := by rw [hz]; rfl
          have HON := Lib.hid hon
          clear hz hon
          go_wp2_with (go_at_call 22; refine (cmp_any _ _ _).mono ?_; rintro e w' ⟨rfl, rfl⟩)
          go_round
          case rel => exact ⟨x + 1, by omega, by omega, by go_num, Lib.hid (HON.out.symm.trans hL.out)⟩
          case measure => simp [intOf]; omega
        · have hz1 : (cmp p q != 0) = true := by rw [bne_iff_ne]; exact hz
          have HON := Lib.hid hon
          clear hz hon
          go_wp2_with (go_at_call 22; refine (cmp_any _ _ _).mono ?_; rintro e w' ⟨rfl, rfl⟩)
          go_ret
          exact ⟨_, rfl, HON.out.trans hL.out, rfl⟩
      · have HE := Lib.hid ((lex_end h0 hlt hlb).symm.trans hL.out)
        go_wp2
        go_ret
        exact ⟨_, rfl, HE.out, rfl⟩
    · have HE := Lib.hid ((lex_end2 (b := b) h0 hlt hx).symm.trans hL.out)
      by_cases hab : a.length < b.length
      · go_wp2
        go_ret
        exact ⟨_, rfl, by rw [← HE.out]; simp [hab], rfl⟩
      · go_wp2
        go_ret
        exact ⟨_, rfl, by rw [← HE.out]; simp [hab], rfl⟩

end Go.Proofs.YtnagdebioaekoaaDoor.ChooseList
