/- The walk of the reference's search for the first list of so many columns. -/
import Derived.Test.YtnagdebioaekoaaDoorEnough
import Derived.Test.YtnagdebioaekoaaDoorTold
import Derived.Laws.AppendOwnNone
namespace Go.Proofs.YtnagdebioaekoaaDoor.ChooseRef
open Go.RowKit Go.Proofs.YtnagdebioaekoaaDoor.ChooseMath Go.Proofs.YtnagdebioaekoaaDoor.ChooseBits Go.Proofs.YtnagdebioaekoaaDoor.ChooseList Go.Proofs.YtnagdebioaekoaaDoor.ChooseEnough Go.Proofs.YtnagdebioaekoaaDoorW.PrintWords
set_option linter.unusedVariables false

/-- A row of these numbers, nil where there are none and no array is there. -/
def Row (w : World) (v : Value) (l : List Nat) : Prop := ∃ A c, v = .slice A l.length c ∧ l.length ≤ c ∧ Kd.C (Kd.int .i64) w A l.length (ints l) ∧ (A = none → c = 0 ∧ l = [])

theorem row_nil (w : World) : Row w (.slice none 0 0) [] := ⟨none, 0, rfl, Nat.le_refl _, ⟨rfl, by simp, fun h => absurd h (by simp)⟩, fun _ => ⟨rfl, rfl⟩⟩
theorem row_below {w w' : World} {v : Value} {l : List Nat} (h : Row w v l) (hb : Below w.heap.size w w') : Row w' v l := by
  obtain ⟨A, c, e, hl, hC, hn⟩ := h
  exact ⟨A, c, e, hl, Kd.C_below hC hb, hn⟩
theorem row_own {w : World} {base : Nat} {v : Value} {l : List Nat} (h : w.ownsRow base 3 1 v l.length (vals l)) : Row w v l := by
  obtain ⟨A, c, e, hl, hC⟩ := own_C h
  refine ⟨A, c, e, hl, hC, fun hA => ?_⟩
  subst hA
  rcases h.2 with ⟨h1, h2⟩ | ⟨g, cap, cur, h1, _⟩
  · rw [e] at h1
    injection h1 with _ _ h3
    exact ⟨h3, List.eq_nil_of_length_eq_zero h2⟩
  · rw [e] at h1
    injection h1 with h1
    cases h1

def IsOpt (o : Option (List Nat)) (b : Bool) (v : Value) (w : World) : Prop := match o with
  | some x => b = true ∧ Row w v x
  | none => b = false
def Chose (o : Option (List Nat)) (w : World) (e : Ending) (w' : World) : Prop := ∃ v b, e = .returned (.tuple #[v, .bool b]) ∧ IsOpt o b v w' ∧ Below w.heap.size w w'

theorem new_cell (w : World) (x : Value) (e : TypeId) (j : Nat) (u : Value) (hj : [x][j]? = some u) : (w.alloc (.cells #[x] e)).cell? ((⟨w.heap.size, 0, none⟩ : Addr).add j) = some u := by
  rw [add_plain, World.cell?_alloc_at _ _ _ _ rfl]
  cases j with
  | zero => simpa using hj
  | succ j => simp at hj
theorem one_cell (k : IntKind) (x : Int) (u : Value) (hu : u ∈ [Value.int k x]) : u.oneCell' = true := by rw [List.mem_singleton.1 hu]; rfl

theorem row_cells {w : World} {ad : Addr} {l : List Nat} (h : Kd.C (Kd.int .i64) w (some ad) l.length (ints l)) (j : Nat) (u : Value) (hj : (vals l)[j]? = some u) : w.cell? (ad.add j) = some u := by
  have hjl : j < l.length := by
    rcases Nat.lt_or_ge j l.length with h1 | h1
    · exact h1
    · rw [List.getElem?_eq_none (by rw [vals_len]; exact h1)] at hj; cases hj
  obtain ⟨ad', e, hc⟩ := Kd.at_int h (j : Int) (by omega) (by omega)
  injection e with e
  subst e
  rw [Int.toNat_natCast] at hc
  rw [hc, ← hj]
  have hr : rd (ints l) (j : Int) = ((l.getD j 0 : Nat) : Int) := rd_ints l j
  unfold vals
  rw [hr, List.getElem?_map]
  unfold ints
  rw [List.getElem?_map, List.getElem?_eq_getElem hjl]
  simp [List.getD_eq_getElem?_getD, hjl]
theorem vals_cells (l : List Nat) (u : Value) (hu : u ∈ vals l) : u.oneCell' = true := by
  unfold vals at hu
  obtain ⟨x, _, rfl⟩ := List.mem_map.1 hu
  rfl

/-- What the two appends leave: the list with one more, in new memory. -/
theorem two_leave {wr w1 : World} {l : List Nat} {c : Nat} {v1 : Value} {k : Nat} (hk : k = l.length + 1) {xs : List Value} (hxs : xs = vals l ++ [.int .i64 (c : Int)]) (h : w1.ownsRow wr.heap.size 3 1 v1 k xs) : Row w1 v1 (l ++ [c]) := by
  subst hk hxs
  refine row_own (base := wr.heap.size) ?_
  rw [vals_snoc, List.length_append]
  exact h

section
variable {m : List (List Bool)} {n : Nat} {A : Option Addr} {cm : Nat}

/-- What all calls share. -/
structure Mat (m : List (List Bool)) (n : Nat) (A : Option Addr) (cm : Nat) (w : World) : Prop where
  hn : n ≤ 16
  hm : m.length ≤ 2000
  hr : Rect m n
  hc : m.length ≤ cm
  hC : Kd.C (Kd.slice 4 Kd.bool) w A m.length m
theorem Mat.below {w w' : World} (h : Mat m n A cm w) (hb : Below w.heap.size w w') : Mat m n A cm w' := ⟨h.hn, h.hm, h.hr, h.hc, Kd.C_below h.hC hb⟩

set_option maxHeartbeats 1000000 in
theorem chosen_zero (c : Nat) (l : List Nat) (v : Value) (w : World) (hM : Mat m n A cm w) (hl : l.length ≤ 100) (hlt : ∀ a ∈ l, a < n) (hrow : Row w v l) :
    Calls Tryd.prog 15 #[.slice A m.length cm, v, .int .i64 (c : Int), .int .i64 0, .int .i64 (n : Int)] w (Chose (chosenL (enoughB m) 0 (n - c) c l) w) := by
  have HP : Hid (chosenL (enoughB m) 0 (n - c) c l = if enoughB m l = true then some l else none) := Lib.hid (by simp only [chosenL])
  have HROW := Lib.hid hrow
  obtain ⟨B, d, rfl, hd, hB, _⟩ := hrow
  have HB := Lib.hid hB
  have HM := Lib.hid hM
  have HLT := Lib.hid hlt
  clear hB hM hlt
  go_enter Tryd.func15, Tryd.ntmps15
  go_wp2_with fail
  refine (enough_any A cm m B d l n _ HM.out.hC HM.out.hc HB.out hd (by omega) (by have := HM.out.hn; omega) (by have := HM.out.hm; omega) HLT.out HM.out.hr).mono ?_
  rintro e w1 ⟨rfl, hw1⟩
  have HW := Lib.hid hw1.below
  clear hw1
  go_wp2
  go_ret2
  refine ⟨_, _, rfl, ?_, HW.out⟩
  rw [HP.out]
  cases h : enoughB m l
  · simp [IsOpt]
  · simp [IsOpt]
    exact row_below HROW.out HW.out

/-- What a round's head knows. -/
def CRel (m : List (List Bool)) (n k c : Nat) (l : List Nat) (w : World) (x : Value) (wr : World) : Prop :=
  ∃ c' : Nat, x = .int .i64 (c' : Int) ∧ c ≤ c' ∧ c' ≤ n ∧ chosenL (enoughB m) (k + 1) (n - c') c' l = chosenL (enoughB m) (k + 1) (n - c) c l ∧ Below w.heap.size w wr

theorem chosenL_here (k c f : Nat) (l : List Nat) : chosenL (enoughB m) (k + 1) (f + 1) c l = match chosenL (enoughB m) k f (c + 1) (l ++ [c]) with | some x => some x | none => chosenL (enoughB m) (k + 1) f (c + 1) l := by
  rw [chosenL]
  cases chosenL (enoughB m) k f (c + 1) (l ++ [c]) <;> rfl

def ChosenAt (m : List (List Bool)) (n : Nat) (A : Option Addr) (cm : Nat) (k : Nat) : Prop := ∀ (c : Nat) (l : List Nat) (v : Value) (w : World), c ≤ n → Mat m n A cm w → l.length + k ≤ 100 → k ≤ 50 → (∀ a ∈ l, a < n) → Row w v l →
    Calls Tryd.prog 15 #[.slice A m.length cm, v, .int .i64 (c : Int), .int .i64 (k : Int), .int .i64 (n : Int)] w (Chose (chosenL (enoughB m) k (n - c) c l) w)

/-- Where the call of itself found a list. -/
theorem found {k c c' f : Nat} {l : List Nat} {w w2 w3 : World} {v3 : Value} {o : Option (List Nat)} (ho : chosenL (enoughB m) k f (c' + 1) (l ++ [c']) = o) (hf : n - c' = f + 1)
    (hrel : chosenL (enoughB m) (k + 1) (n - c') c' l = chosenL (enoughB m) (k + 1) (n - c) c l) (hopt : IsOpt o true v3 w3) (hb : Below w.heap.size w w3) :
    Chose (chosenL (enoughB m) (k + 1) (n - c) c l) w (.returned (.tuple #[v3, .bool true])) w3 := by
  refine ⟨v3, true, rfl, ?_, hb⟩
  rw [← hrel, hf, chosenL_here, ho]
  cases o with
  | none => exact absurd hopt (by simp [IsOpt])
  | some x => exact hopt
theorem not_found {k c c' f : Nat} {l : List Nat} {w w3 : World} {v3 : Value} {o : Option (List Nat)} (ho : chosenL (enoughB m) k f (c' + 1) (l ++ [c']) = o) (hf : n - c' = f + 1)
    (hrel : chosenL (enoughB m) (k + 1) (n - c') c' l = chosenL (enoughB m) (k + 1) (n - c) c l) (hopt : IsOpt o false v3 w3) :
    chosenL (enoughB m) (k + 1) (n - (c' + 1)) (c' + 1) l = chosenL (enoughB m) (k + 1) (n - c) c l := by
  rw [← hrel, hf, chosenL_here, ho, show n - (c' + 1) = f by omega]
  cases o with
  | none => rfl
  | some x => exact absurd hopt (by simp [IsOpt])
theorem at_end {k c c' : Nat} {l : List Nat} {w w3 : World} (h : ¬ c' < n) (hrel : chosenL (enoughB m) (k + 1) (n - c') c' l = chosenL (enoughB m) (k + 1) (n - c) c l) (hb : Below w.heap.size w w3) :
    Chose (chosenL (enoughB m) (k + 1) (n - c) c l) w (.returned (.tuple #[.slice none 0 0, .bool false])) w3 := by
  refine ⟨_, false, rfl, ?_, hb⟩
  rw [← hrel, show n - c' = 0 by omega]
  simp [chosenL, IsOpt]

set_option maxHeartbeats 2000000 in
theorem chosen_succ_nil (k : Nat) (ih : ChosenAt m n A cm k) (c : Nat) (w : World) (hcn : c ≤ n) (hM : Mat m n A cm w) (hk : k + 1 ≤ 50) :
    Calls Tryd.prog 15 #[.slice A m.length cm, .slice none 0 0, .int .i64 (c : Int), .int .i64 ((k + 1 : Nat) : Int), .int .i64 (n : Int)] w (Chose (chosenL (enoughB m) (k + 1) (n - c) c []) w) := by
  have hlt : ∀ a ∈ ([] : List Nat), a < n := fun a ha => by simp at ha
  have IH := Lib.hid ih
  clear ih
  have HM := Lib.hid hM
  have hn16 := hM.hn
  have HLT := Lib.hid hlt
  clear hM hlt
  obtain ⟨i0, hi, hz0, hz1, hz2⟩ := info_parts info3
  have HI := Lib.hid hi
  have HZ0 := Lib.hid hz0
  have HZ1 := Lib.hid hz1
  have HZ2 := Lib.hid hz2
  clear hi hz0 hz1 hz2
  rw [show ((k + 1 : Nat) : Int) = (k : Int) + 1 by omega]
  have hk0 : ((k : Int) + 1 == 0) = false := by rw [beq_eq_false_iff_ne]; omega
  go_enter Tryd.func15, Tryd.ntmps15
  go_wp2
  go_loopw [12, 13, 14] (fun x _ _ wr => CRel m n k c [] w x wr) (fun x _ _ _ => n - (intOf x).toNat)
  case atStart => exact ⟨c, rfl, Nat.le_refl _, hcn, rfl, Below.refl _ _⟩
  case round =>
    obtain ⟨c', rfl, hcc, hcn', hrel', hbr⟩ := hrel
    have HREL := Lib.hid hrel'
    have hsz := hbr.size
    have HBR := Lib.hid hbr
    have HMR := Lib.hid (HM.out.below hbr)
    clear hrel' hbr
    by_cases hlt' : c' < n
    · have hown0 : wr.ownsRow wr.heap.size 3 1 (.slice none 0 0) 0 [] := ⟨rfl, .inl ⟨rfl, rfl⟩⟩
      have HO0 := Lib.hid hown0
      have HLT2 : Hid (∀ a ∈ [] ++ [c'], a < n) := Lib.hid (by
        intro a ha
        rcases List.mem_append.1 ha with ha | ha
        · exact HLT.out a ha
        · rw [List.mem_singleton.1 ha]; exact hlt')
      have HLL : Hid (([] ++ [c']).length + k ≤ 100) := Lib.hid (by rw [List.length_append]; simp; omega)
      have hsub : ((k + 1 : Nat) : Int) - 1 = (k : Int) := by omega
      have hadd : (c' : Int) + 1 = ((c' + 1 : Nat) : Int) := by omega
      have HSUB := Lib.hid hsub
      have HADD := Lib.hid hadd
      have HF : Hid (n - c' = (n - (c' + 1)) + 1) := Lib.hid (by omega)
      clear hown0 hsub hadd
      go_wp2_with (first
        | (at_builtin; refine wpList_append_own_none rfl _ _ 23 rfl wr.heap.size 3 i0 1 Tryd.underlying23 HI.out _ 0 [] rfl HO0.out rfl ?_)
        | (at_builtin; refine wpList_append_own _ rfl _ _ 23 rfl wr.heap.size 3 i0 (.int .i64 0) 1 8 Tryd.underlying23 HI.out HZ0.out HZ1.out HZ2.out rfl (by decide) _ 0 [] rfl (HO0.out.alloc _) ⟨wr.heap.size, 0, none⟩ 1 1 [.int .i64 (c' : Int)] rfl rfl (new_cell _ _ _) (one_cell _ _) (by unfold maxLen; omega) (by omega) (by simp) ?_))
      intro v1 w1 hown1 hg1 _
      have HROW1 := Lib.hid (two_leave (l := []) (c := c') rfl rfl hown1)
      have HB1 := Lib.hid (((Below.refl _ _).alloc (Nat.le_refl _) _).grown hg1 (by simp) (fun k hk => by simp [Value.ownBlock] at hk) : Below wr.heap.size wr w1)
      clear hown1 hg1
      go_wp2_with fail
      rw [HADD.out]
      refine (IH.out (c' + 1) ([] ++ [c']) v1 w1 (by omega) (HMR.out.below HB1.out) HLL.out (by omega) HLT2.out HROW1.out).mono ?_
      rintro e w3 ⟨v3, b, rfl, hopt, hb3⟩
      have HB3 := Lib.hid (HBR.out.trans ((HB1.out.trans (hb3.mono HB1.out.size)).mono hsz))
      clear hb3
      cases b with
      | true =>
        have HPOST := Lib.hid (found (w2 := w1) rfl HF.out HREL.out hopt HB3.out)
        clear hopt
        go_wp2
        go_ret2
        exact HPOST.out
      | false =>
        have HPOST := Lib.hid (not_found (w := w) rfl HF.out HREL.out hopt)
        clear hopt
        go_wp2
        go_roundw
        case rel => exact ⟨c' + 1, by go_num, by omega, by omega, HPOST.out, HB3.out⟩
        case measure => simp [intOf]; omega
    · go_wp2
      go_ret2
      exact at_end hlt' HREL.out HBR.out
set_option maxHeartbeats 2000000 in
theorem chosen_succ_some (k : Nat) (ih : ChosenAt m n A cm k) (c : Nat) (l : List Nat) (ad : Addr) (d : Nat) (w : World) (hcn : c ≤ n) (hM : Mat m n A cm w) (hl : l.length + (k + 1) ≤ 100) (hk : k + 1 ≤ 50) (hlt : ∀ a ∈ l, a < n) (hd : l.length ≤ d) (hB : Kd.C (Kd.int .i64) w (some ad) l.length (ints l)) :
    Calls Tryd.prog 15 #[.slice A m.length cm, .slice (some ad) l.length d, .int .i64 (c : Int), .int .i64 ((k + 1 : Nat) : Int), .int .i64 (n : Int)] w (Chose (chosenL (enoughB m) (k + 1) (n - c) c l) w) := by
  have IH := Lib.hid ih
  clear ih
  have HM := Lib.hid hM
  have hn16 := hM.hn
  have HLT := Lib.hid hlt
  have HB := Lib.hid hB
  clear hB hM hlt
  obtain ⟨i0, hi, hz0, hz1, hz2⟩ := info_parts info3
  have HI := Lib.hid hi
  have HZ0 := Lib.hid hz0
  have HZ1 := Lib.hid hz1
  have HZ2 := Lib.hid hz2
  clear hi hz0 hz1 hz2
  rw [show ((k + 1 : Nat) : Int) = (k : Int) + 1 by omega]
  have hk0 : ((k : Int) + 1 == 0) = false := by rw [beq_eq_false_iff_ne]; omega
  go_enter Tryd.func15, Tryd.ntmps15
  go_wp2
  go_loopw [12, 13, 14] (fun x _ _ wr => CRel m n k c l w x wr) (fun x _ _ _ => n - (intOf x).toNat)
  case atStart => exact ⟨c, rfl, Nat.le_refl _, hcn, rfl, Below.refl _ _⟩
  case round =>
    obtain ⟨c', rfl, hcc, hcn', hrel', hbr⟩ := hrel
    have HREL := Lib.hid hrel'
    have hsz := hbr.size
    have HBR := Lib.hid hbr
    have HMR := Lib.hid (HM.out.below hbr)
    clear hrel' hbr
    by_cases hlt' : c' < n
    · have hroom : l.length + 1 ≤ maxLen := by unfold maxLen; omega
      have hroom2 : (l.length + 1) * 8 ≤ 140737488355328 := by omega
      have hroom3 : 0 + l.length ≤ maxLen := by unfold maxLen; omega
      have hroom4 : (0 + l.length) * 8 ≤ 140737488355328 := by omega
      have hown0 : wr.ownsRow wr.heap.size 3 1 (.slice none 0 0) 0 [] := ⟨rfl, .inl ⟨rfl, rfl⟩⟩
      have HO0 := Lib.hid hown0
      have HLT2 : Hid (∀ a ∈ l ++ [c'], a < n) := Lib.hid (by
        intro a ha
        rcases List.mem_append.1 ha with ha | ha
        · exact HLT.out a ha
        · rw [List.mem_singleton.1 ha]; exact hlt')
      have HLL : Hid ((l ++ [c']).length + k ≤ 100) := Lib.hid (by rw [List.length_append]; simp; omega)
      have hsub : ((k + 1 : Nat) : Int) - 1 = (k : Int) := by omega
      have hadd : (c' : Int) + 1 = ((c' + 1 : Nat) : Int) := by omega
      have HSUB := Lib.hid hsub
      have HADD := Lib.hid hadd
      have HF : Hid (n - c' = (n - (c' + 1)) + 1) := Lib.hid (by omega)
      clear hown0 hsub hadd
      have HCELLS := Lib.hid (row_cells (Kd.C_below HB.out HBR.out))
      go_wp2_with (first
        | (at_builtin; refine wpList_append_own _ rfl _ _ 23 rfl wr.heap.size 3 i0 (.int .i64 0) 1 8 Tryd.underlying23 HI.out HZ0.out HZ1.out HZ2.out rfl (by decide) (.slice none 0 0) 0 [] rfl HO0.out ad l.length d (vals l) rfl (by rw [vals_len, Nat.mul_one]) HCELLS.out (vals_cells l) hroom3 hroom4 (Nat.le_refl _) ?_; intro v0 w0 hown0 hg0 _; have HG0 := Lib.hid hg0; have HO1 := Lib.hid hown0; have hz0 := hg0.size; clear hg0 hown0)
        | (at_builtin; refine wpList_append_own _ rfl _ _ 23 rfl wr.heap.size 3 i0 (.int .i64 0) 1 8 Tryd.underlying23 HI.out HZ0.out HZ1.out HZ2.out rfl (by decide) v0 (0 + l.length) ([] ++ vals l) rfl (HO1.out.alloc _) ⟨w0.heap.size, 0, none⟩ 1 1 [.int .i64 (c' : Int)] rfl rfl (new_cell _ _ _) (one_cell _ _) (by omega) (by omega) (by simp; omega) ?_))
      intro v1 w1 hown1 hg1 _
      have HROW1 := Lib.hid (two_leave (l := l) (c := c') (by omega) (by simp) hown1)
      have HB1 : Hid (Below wr.heap.size wr w1) := Lib.hid ((((Below.refl _ _).grown HG0.out (Nat.le_refl _) (fun k hk => by simp [Value.ownBlock] at hk)).alloc hz0 _).grown hg1 (by simp; omega) (own_base HO1.out))
      clear hown1 hg1
      go_wp2_with fail
      rw [HADD.out]
      refine (IH.out (c' + 1) (l ++ [c']) v1 w1 (by omega) (HMR.out.below HB1.out) HLL.out (by omega) HLT2.out HROW1.out).mono ?_
      rintro e w3 ⟨v3, b, rfl, hopt, hb3⟩
      have HB3 := Lib.hid (HBR.out.trans ((HB1.out.trans (hb3.mono HB1.out.size)).mono hsz))
      clear hb3
      cases b with
      | true =>
        have HPOST := Lib.hid (found (w2 := w1) rfl HF.out HREL.out hopt HB3.out)
        clear hopt
        go_wp2
        go_ret2
        exact HPOST.out
      | false =>
        have HPOST := Lib.hid (not_found (w := w) rfl HF.out HREL.out hopt)
        clear hopt
        go_wp2
        go_roundw
        case rel => exact ⟨c' + 1, by go_num, by omega, by omega, HPOST.out, HB3.out⟩
        case measure => simp [intOf]; omega
    · go_wp2
      go_ret2
      exact at_end hlt' HREL.out HBR.out
theorem chosen_succ (k : Nat) (ih : ChosenAt m n A cm k) : ChosenAt m n A cm (k + 1) := by
  intro c l v w hcn hM hl hk hlt hrow
  obtain ⟨B, d, rfl, hd, hB, hnil⟩ := hrow
  cases B with
  | none =>
    obtain ⟨rfl, rfl⟩ := hnil rfl
    exact chosen_succ_nil k ih c w hcn hM hk
  | some ad => exact chosen_succ_some k ih c l ad d w hcn hM hl hk hlt hd hB

theorem chosen_any : ∀ k, ChosenAt m n A cm k
  | 0 => fun c l v w _ hM hl _ hlt hrow => chosen_zero c l v w hM (by omega) hlt hrow
  | k + 1 => chosen_succ k (chosen_any k)
end

end Go.Proofs.YtnagdebioaekoaaDoor.ChooseRef
