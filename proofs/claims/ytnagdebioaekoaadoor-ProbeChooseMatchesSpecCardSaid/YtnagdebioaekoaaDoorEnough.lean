/- What the printed function Enough comes to, on rows of equally many columns and a list of columns. -/
import Derived.Test.YtnagdebioaekoaaDoorPProbeChooseMatchesSpecx2
import Derived.Test.YtnagdebioaekoaaDoorCmp
namespace Go.Proofs.YtnagdebioaekoaaDoor.ChooseEnough
open Go.RowKit Go.Proofs.YtnagdebioaekoaaDoor.ChooseMath Go.Proofs.YtnagdebioaekoaaDoor.ChooseBits Go.Proofs.YtnagdebioaekoaaDoor.ChooseList Go.Proofs.YtnagdebioaekoaaDoor.PProbeChooseMatchesSpec Go.Proofs.YtnagdebioaekoaaDoorW.PrintWords
set_option linter.unusedVariables false

theorem any_drop {p : Nat → Bool} {l : List Nat} {j : Nat} (h : j < l.length) : (l.drop j).any p = (p (l.getD j 0) || (l.drop (j + 1)).any p) := by
  rw [ChooseList.drop_at h, List.any_cons]
theorem drop_atB {l : List Bool} {i : Nat} (h : i < l.length) : l.drop i = l.getD i false :: l.drop (i + 1) := by
  rw [List.drop_eq_getElem_cons h]
  simp [List.getD_eq_getElem?_getD, h]
theorem drop_atR {l : List (List Bool)} {i : Nat} (h : i < l.length) : l.drop i = l.getD i [] :: l.drop (i + 1) := by
  rw [List.drop_eq_getElem_cons h]
  simp [List.getD_eq_getElem?_getD, h]

def okRow (L : List Nat) (row : List Bool) : Bool := !(row.any id) || L.any fun c => row.getD c false

section
variable {m : List (List Bool)} {L : List Nat} {n : Nat}

theorem en_l2 (hL : L.length ≤ 1000) (hn : n ≤ 1000) (hm : m.length ≤ 100000) (hlt : ∀ c ∈ L, c < n) (i : Nat) (hi : i < m.length) (hrow : (m.getD i []).length = n) (k0 : Nat) (r : Bool)
    (hnext : ∀ k, k0 ≤ k → dynamometerref12_Enough.l0 k m (ints L) ((i + 1 : Nat) : Int) = some r) (sm : Bool) (d : Nat) :
    ∀ (j : Nat) (kept : Bool) (k : Nat), j + d = L.length → k0 + d + 1 ≤ k →
      dynamometerref12_Enough.l2 k m (ints L) (i : Int) sm kept (j : Int) = some ((!sm || (kept || (L.drop j).any fun c => (m.getD i []).getD c false)) && r) := by
  have hw : Hid (wrap64 ((i : Int) + 1) = ((i + 1 : Nat) : Int)) := Lib.hid (by unfold wrap64; omega)
  induction d with
  | zero =>
    intro j kept k hj hk
    obtain ⟨k, rfl⟩ : ∃ q, k = q + 1 := ⟨k - 1, by omega⟩
    simp only [dynamometerref12_Enough.l2, ints_len]
    rw [if_neg (by omega), List.drop_eq_nil_of_le (show L.length ≤ j by omega), hw.out, hnext k (by omega)]
    cases sm <;> cases kept <;> simp
  | succ d ih =>
    intro j kept k hj hk
    obtain ⟨k, rfl⟩ : ∃ q, k = q + 1 := ⟨k - 1, by omega⟩
    have hw2 : Hid (wrap64 ((j : Int) + 1) = ((j + 1 : Nat) : Int)) := Lib.hid (by unfold wrap64; omega)
    have hjl : j < L.length := by omega
    have hc : L.getD j 0 < n := by
      rw [List.getD_eq_getElem?_getD, List.getElem?_eq_getElem hjl]
      exact hlt _ (List.getElem_mem hjl)
    simp only [dynamometerref12_Enough.l2, ints_len]
    rw [if_pos (by omega), any_drop hjl, hw2.out]
    cases kept with
    | true =>
      rw [if_pos rfl, ih (j + 1) true k (by omega) (by omega)]
      simp
    | false =>
      have c1 : (0 : Int) ≤ (i : Int) := Int.natCast_nonneg _
      have c2 : (i : Int) < ((m.length : Nat) : Int) := Int.ofNat_lt.2 hi
      have c3 : (0 : Int) ≤ (j : Int) := Int.natCast_nonneg _
      rw [if_neg Bool.false_ne_true, if_pos c1, if_pos c2, if_pos c3]
      have e1 : rd (ints L) (j : Int) = ((L.getD j 0 : Nat) : Int) := rd_ints L j
      have e2 : rd_L2 m (i : Int) = m.getD i [] := by unfold rd_L2; rw [Int.toNat_natCast]
      have e3 : rdOf false (m.getD i []) ((L.getD j 0 : Nat) : Int) = (m.getD i []).getD (L.getD j 0) false := by unfold rdOf; rw [Int.toNat_natCast]
      have h5 := ih (j + 1) ((m.getD i []).getD (L.getD j 0) false) k (by omega) (by omega)
      have h6 : (0 : Int) ≤ ((L.getD j 0 : Nat) : Int) := Int.natCast_nonneg _
      have h7 : ((L.getD j 0 : Nat) : Int) < (((m.getD i []).length : Nat) : Int) := by rw [hrow]; exact Int.ofNat_lt.2 hc
      rw [e1, e2, if_pos h6, if_pos h7, e3, h5]
      cases (m.getD i []).getD (L.getD j 0) false <;> rfl

theorem en_l1 (hL : L.length ≤ 1000) (hn : n ≤ 1000) (hm : m.length ≤ 100000) (hlt : ∀ c ∈ L, c < n) (i : Nat) (hi : i < m.length) (hrow : (m.getD i []).length = n) (k0 : Nat) (r : Bool)
    (hnext : ∀ k, k0 ≤ k → dynamometerref12_Enough.l0 k m (ints L) ((i + 1 : Nat) : Int) = some r) (d : Nat) :
    ∀ (j : Nat) (sm : Bool) (k : Nat), j + d = n → k0 + L.length + 1 + d + 1 ≤ k →
      dynamometerref12_Enough.l1 k m (ints L) (i : Int) sm false (j : Int) = some ((!(sm || ((m.getD i []).drop j).any id) || (L.any fun c => (m.getD i []).getD c false)) && r) := by
  have e2 : rd_L2 m (i : Int) = m.getD i [] := by unfold rd_L2; rw [Int.toNat_natCast]
  induction d with
  | zero =>
    intro j sm k hj hk
    obtain ⟨k, rfl⟩ : ∃ q, k = q + 1 := ⟨k - 1, by omega⟩
    simp only [dynamometerref12_Enough.l1, e2, hrow]
    rw [if_pos (by omega), if_pos (by omega), if_neg (by omega), List.drop_eq_nil_of_le (show (m.getD i []).length ≤ j by omega)]
    have := en_l2 hL hn hm hlt i hi hrow k0 r hnext sm L.length 0 false k (by omega) (by omega)
    rw [show ((0 : Nat) : Int) = 0 from rfl] at this
    rw [this]
    simp
  | succ d ih =>
    intro j sm k hj hk
    obtain ⟨k, rfl⟩ : ∃ q, k = q + 1 := ⟨k - 1, by omega⟩
    have hw2 : Hid (wrap64 ((j : Int) + 1) = ((j + 1 : Nat) : Int)) := Lib.hid (by unfold wrap64; omega)
    simp only [dynamometerref12_Enough.l1, e2, hrow]
    rw [if_pos (by omega), if_pos (by omega), if_pos (by omega), drop_atB (l := m.getD i []) (i := j) (by omega), hw2.out, List.any_cons]
    cases sm with
    | true =>
      rw [if_pos rfl, ih (j + 1) true k (by omega) (by omega)]
      simp
    | false =>
      have e3 : rdOf false (m.getD i []) (j : Int) = (m.getD i []).getD j false := by unfold rdOf; rw [Int.toNat_natCast]
      rw [if_neg (by simp), if_pos (by omega), e3, ih (j + 1) _ k (by omega) (by omega)]
      simp

theorem en_l0 (hL : L.length ≤ 1000) (hn : n ≤ 1000) (hm : m.length ≤ 100000) (hlt : ∀ c ∈ L, c < n) (hr : Rect m n) (d : Nat) :
    ∀ i, i + d = m.length → ∃ k0, ∀ k, k0 ≤ k → dynamometerref12_Enough.l0 k m (ints L) (i : Int) = some ((m.drop i).all (okRow L)) := by
  induction d with
  | zero =>
    intro i hi
    refine ⟨1, fun k hk => ?_⟩
    obtain ⟨k, rfl⟩ : ∃ q, k = q + 1 := ⟨k - 1, by omega⟩
    simp only [dynamometerref12_Enough.l0]
    rw [if_neg (by omega), List.drop_eq_nil_of_le (show m.length ≤ i by omega)]
    rfl
  | succ d ih =>
    intro i hi
    obtain ⟨k0, h0⟩ := ih (i + 1) (by omega)
    have hil : i < m.length := by omega
    have hrow : (m.getD i []).length = n := by
      rw [List.getD_eq_getElem?_getD, List.getElem?_eq_getElem hil]
      exact hr _ (List.getElem_mem hil)
    refine ⟨k0 + L.length + 1 + n + 2, fun k hk => ?_⟩
    obtain ⟨k, rfl⟩ : ∃ q, k = q + 1 := ⟨k - 1, by omega⟩
    simp only [dynamometerref12_Enough.l0]
    have := en_l1 hL hn hm hlt i hil hrow k0 _ h0 n 0 false k (by omega) (by omega)
    rw [show ((0 : Nat) : Int) = 0 from rfl] at this
    rw [if_pos (by omega), this, drop_atR (l := m) (i := i) hil, List.all_cons]
    simp [okRow]

theorem enough_f (hL : L.length ≤ 1000) (hn : n ≤ 1000) (hm : m.length ≤ 100000) (hlt : ∀ c ∈ L, c < n) (hr : Rect m n) : ∃ k, dynamometerref12_Enough.f k m (ints L) = some (enoughB m L) := by
  obtain ⟨k0, h0⟩ := en_l0 hL hn hm hlt hr m.length 0 (by omega)
  exact ⟨k0, h0 k0 (Nat.le_refl _)⟩
end

/-- The walk of Enough. -/
theorem enough_any (A : Option Addr) (c : Nat) (m : List (List Bool)) (B : Option Addr) (d : Nat) (L : List Nat) (n : Nat) (w : World)
    (hA : Kd.C (Kd.slice 4 Kd.bool) w A m.length m) (hc : m.length ≤ c) (hB : Kd.C (Kd.int .i64) w B L.length (ints L)) (hd : L.length ≤ d)
    (hL : L.length ≤ 1000) (hn : n ≤ 1000) (hm : m.length ≤ 100000) (hlt : ∀ c ∈ L, c < n) (hr : Rect m n) :
    Calls Tryd.prog 8 #[.slice A m.length c, .slice B L.length d] w fun e w' => e = .returned (.bool (enoughB m L)) ∧ Drawn0 w w' := by
  obtain ⟨k, hk⟩ := enough_f hL hn hm hlt hr
  have h := dynamometerref12_Enough.calls k A c m B d (ints L) (enoughB m L) w hA hc (by rw [ints_len]; exact hB) (by rw [ints_len]; exact hd) hk
  rw [ints_len] at h
  exact h

end Go.Proofs.YtnagdebioaekoaaDoor.ChooseEnough
