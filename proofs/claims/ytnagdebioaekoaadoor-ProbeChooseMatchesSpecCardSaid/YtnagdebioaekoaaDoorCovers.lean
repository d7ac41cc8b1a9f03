/- The walk of the closure that asks whether a set of columns meets each set of the map. -/
import Derived.Test.YtnagdebioaekoaaDoorCmp
import Derived.Maps.RangeWalk
import Derived.Maps.OwnSet
import Derived.OneCell
namespace Go.Proofs.YtnagdebioaekoaaDoor.ChooseProbe
open Go.RowKit Go.Maps Go.Proofs.YtnagdebioaekoaaDoor.ChooseMath Go.Proofs.YtnagdebioaekoaaDoor.ChooseBits Go.Proofs.YtnagdebioaekoaaDoor.ChooseList Go.Proofs.YtnagdebioaekoaaDoorW.PrintWords
set_option linter.unusedVariables false

theorem law33 : Keyed Tryd.prog 33 := int_keyed Tryd.underlying33

noncomputable abbrev El : Value → Option (DataW Unit × List MemPlace) := plainElem Tryd.prog 4

/-- The keys of a map are these numbers. -/
def Keys (D : DataW Unit) (S : List Nat) : Prop := ∀ x : Int, Maps.has D (.int .u64 x) = true ↔ ∃ r ∈ S, x = (r : Int)

def meets (S : List Nat) (s : Nat) : Bool := S.all fun r => r &&& s != 0

/-- Who is left, and who has been met. -/
def Met (D : DataW Unit) (S : List Nat) (s : Nat) (left : Lit → Bool) : Prop := (∀ kl, left kl = true → Maps.has D kl = true) ∧ ∀ r ∈ S, left (.int .u64 (r : Int)) = true ∨ r &&& s ≠ 0

theorem met_start {D : DataW Unit} {S : List Nat} (hk : Keys D S) (s : Nat) : Met D S s (Maps.has D) := ⟨fun _ h => h, fun r hr => .inl ((hk _).2 ⟨r, hr, rfl⟩)⟩
theorem met_end {D : DataW Unit} {S : List Nat} {s : Nat} {left : Lit → Bool} (h : Met D S s left) (h0 : ∀ kl, left kl = false) : meets S s = true := by
  unfold meets
  rw [List.all_eq_true]
  intro r hr
  rcases h.2 r hr with h1 | h1
  · rw [h0] at h1; cases h1
  · simpa using h1
theorem met_key {D : DataW Unit} {S : List Nat} {s : Nat} {left : Lit → Bool} (hk : Keys D S) (h : Met D S s left) {x : Int} (hl : left (.int .u64 x) = true) : ∃ r ∈ S, x = (r : Int) := (hk x).1 (h.1 _ hl)
theorem met_step {D : DataW Unit} {S : List Nat} {s : Nat} {left : Lit → Bool} (h : Met D S s left) {r : Nat} (hr : r &&& s ≠ 0) : Met D S s (fun z => left z && !z.sameKey (.int .u64 (r : Int))) := by
  refine ⟨fun kl hl => h.1 kl (by simp at hl; exact hl.1), fun q hq => ?_⟩
  by_cases e : q = r
  · right; rw [e]; exact hr
  · rcases h.2 q hq with h1 | h1
    · left
      show (left (.int .u64 (q : Int)) && !(Lit.int IntKind.u64 (q : Int)).sameKey (.int .u64 (r : Int))) = true
      rw [h1, sameKey_ne (by intro h2; injection h2 with _ h3; omega)]
      rfl
    · right; exact h1
theorem met_no {S : List Nat} {s r : Nat} (hr : r ∈ S) (h : r &&& s = 0) : meets S s = false := by
  unfold meets
  rw [List.all_eq_false]
  exact ⟨r, hr, by simp [h]⟩

set_option maxHeartbeats 1000000 in
theorem covers_any (bw bm k s : Nat) (hs : s < 65536) (S : List Nat) (hS : ∀ r ∈ S, r < 65536) (D : DataW Unit) (w : World) (hown : w.ownsMap Tryd.prog 33 El bm k D) (hk : Keys D S) (hbw : w.heap[bw]? = some (.cells #[.map (some bm)] 32 (0, 0))) :
    Calls Tryd.prog 9 #[.int .u64 (s : Int), .pointer (some ⟨bw, 0, none⟩)] w fun e w' => e = .returned (.bool (meets S s)) ∧ w.grownBy w' none := by
  have hcell := cell_of_one hbw
  have HK := Lib.hid hk
  have HS := Lib.hid hS
  clear hbw hk hS
  go_enter Tryd.func9, Tryd.ntmps9
  go_wp2_with (first
    | (at_range; refine wpList_range_own _ rfl _ 32 rfl 33 4 law33 Tryd.underlying32 _ bm k _ rfl hown ?_; intro w0 hrg0 hg0 hs0)
    | go_in)
  go_frame
  go_loopw [4] (fun _ wr => ∃ (left : Lit → Bool) (cnt : Nat), wr.ranges Tryd.prog 33 El bm w.heap.size k D left cnt ∧ w.grownBy wr none ∧ Met D S s left)
    (fun _ wr => wr.rangeLeft bm w.heap.size)
  case atStart => exact ⟨_, _, hrg0, hg0, met_start HK.out s⟩
  case round =>
    obtain ⟨left, cnt, hrg, hgw, hmet⟩ := hrel
    have HMET := Lib.hid hmet
    have HGW := Lib.hid hgw
    clear hmet hgw hcell
    go_wp2_with (first
      | (at_next; refine wpList_next_ranges (α := Int) (β := Value) _ rfl _ rfl 33 law33 El (Value.int .u64) (fun v => v) (fun key kl hkey => by obtain ⟨x, rfl, _⟩ := Maps.keyOf_int_inv Tryd.underlying33 hkey; exact ⟨x, rfl⟩) (fun v y hv => ⟨v, rfl⟩) bm w.heap.size k _ _ _ rfl hrg ?_ ?_)
      | go_in)
    · -- nothing is left
      intro _ hl0
      have HE := Lib.hid (met_end HMET.out hl0)
      clear hl0
      go_wp2
      go_ret
      exact ⟨by rw [HE.out]; rfl, HGW.out⟩
    · -- a set has come
      intro x c kl ya yb w1 cnt1 hkey hl hv hat hrg1 hlt hg1 hs1 hen
      obtain ⟨x', ex, rfl, hwf⟩ := Maps.keyOf_int_inv Tryd.underlying33 hkey
      cases ex
      obtain ⟨r, hr, rfl⟩ := met_key HK.out HMET.out hl
      have hr16 := HS.out r hr
      have hand : Go.bits .and .u64 (r : Int) (s : Int) = ((r &&& s : Nat) : Int) := bits_and_u64_nat r s (by omega) (by omega)
      have HGW1 := Lib.hid (HGW.out.andThen hg1 (fun j hj => by cases hj; exact Or.inl (Nat.le_refl _)))
      have HR := Lib.hid hr
      have HRG1 := Lib.hid hrg1
      have HLT : Hid (w1.rangeLeft bm w.heap.size < wr.rangeLeft bm w.heap.size) := Lib.hid (by rw [hrg1.left_eq, hrg.left_eq]; exact hlt)
      clear hkey hl hv hat hrg1 hlt hg1 hs1 hrg hr hwf
      by_cases h0 : r &&& s = 0
      · have hz : (((r &&& s : Nat) : Int) == 0) = true := by rw [h0]; rfl
        have HN := Lib.hid (met_no HR.out h0)
        clear h0
        go_wp2
        go_ret
        exact ⟨by rw [HN.out]; rfl, HGW1.out⟩
      · have hz : (((r &&& s : Nat) : Int) == 0) = false := by rw [beq_eq_false_iff_ne]; omega
        have HN := Lib.hid (met_step HMET.out h0)
        clear h0
        go_wp2
        go_roundw
        case rel => exact ⟨_, cnt1, HRG1.out, HGW1.out, HN.out⟩
        case measure => exact HLT.out

end Go.Proofs.YtnagdebioaekoaaDoor.ChooseProbe
