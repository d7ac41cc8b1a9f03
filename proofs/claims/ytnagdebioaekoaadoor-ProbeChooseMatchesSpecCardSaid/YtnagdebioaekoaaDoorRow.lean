/- For every matrix of booleans, the statement ProbeChooseMatchesSpec returns true and leaves its argument as it was. Conditions: the row's own (the reach of each slice; the three listed tables of the library read as their text lays them: the card ties that). -/
import Derived.Test.YtnagdebioaekoaaDoorRows
import Derived.Test.YtnagdebioaekoaaDoorLaw
import Derived.ProofKit
import Derived.OpenShut
import Derived.ChangeOld
import Derived.Below
import Derived.SizedLaws
import Derived.LaidMore
import Derived.Stop.Joined
import Derived.Deep.Grids
import Derived.Lib.LaidTab
namespace Go.Proofs.YtnagdebioaekoaaDoor.ChooseRow
open Go.ChangeShapes Go.WideShapes Go.ChangeAt Go.RowKit Go.Proofs.YtnagdebioaekoaaDoorW.PrintWords
set_option linter.unusedVariables false

theorem own : ownKnob Tryd.prog.godebug = none := by kernel_rfl
theorem laidOut : laidOutB Tryd.prog = true := by kernel_rfl
theorem g32 : Tryd.prog.globalNamed "math/bits.deBruijn32tab" = some 0 := by kernel_rfl
theorem g64 : Tryd.prog.globalNamed "math/bits.deBruijn64tab" = some 1 := by kernel_rfl
theorem gp10 : Tryd.prog.globalNamed "internal/strconv.uint64pow10" = some 2 := by kernel_rfl

abbrev laid3 : List (String × DataW Unit) := [("math/bits.deBruijn32tab", Rows.laid_math_bits_deBruijn32tab), ("math/bits.deBruijn64tab", Rows.laid_math_bits_deBruijn64tab), ("internal/strconv.uint64pow10", Rows.laid_internal_strconv_uint64pow10)]

theorem door_met (os : Os) (args : Array Value) : laidMetH Tryd.prog laid3 ((World.doorLaid Tryd.prog 400 os).forCall (fun _ _ => 0) ⟨#[], args, []⟩).memory :=
  laidMetH_of_parts3 (fuel := 8) (laidMet_of_run' 8 (by kernel_rfl) (by kernel_rfl)) (by kernel_rfl) (by kernel_rfl)

theorem t64 : (Tryd.prog.globals[1]?).map (·.type) = some 57 := by kernel_rfl
theorem tp10 : (Tryd.prog.globals[2]?).map (·.type) = some 66 := by kernel_rfl
theorem c5 : Tryd.prog.cellsOf 5 = 1 := by kernel_rfl
theorem c57 : Tryd.prog.cellsOf 57 = 64 := by kernel_rfl
theorem c52 : Tryd.prog.cellsOf 52 = 1 := by kernel_rfl
theorem c66 : Tryd.prog.cellsOf 66 = 20 := by kernel_rfl
theorem c4 : Tryd.prog.cellsOf 4 = 1 := by kernel_rfl
theorem c31 : Tryd.prog.cellsOf 31 = 1 := by kernel_rfl
theorem b31 : Tryd.prog.bytesOf 31 = 24 := by kernel_rfl

theorem data64 : Rows.laid_math_bits_deBruijn64tab = (Lib.tabData .u8 (Lib.deBruijn64tab.map Int.ofNat) : DataW Unit) := rfl
theorem datap10 : Rows.laid_internal_strconv_uint64pow10 = (Lib.tabData .u64 Lib.pow10Tab : DataW Unit) := rfl

/-- What the condition gives the walk: the two tables that are read. -/
theorem of_laid {W : World} (h : laidMetH Tryd.prog laid3 W) : TabAt 1 Lib.deBruijn64tab W ∧ Lib.TabIs Tryd.prog W "internal/strconv.uint64pow10" .u64 Lib.pow10Tab := by
  rw [MakeChecks.laidMetH_plain _ _ _ (by kernel_rfl)] at h
  obtain ⟨ps, ⟨_, _, _, _, _, _, _, _, _, _, ⟨a1, a2, a3, a4, a5, a6, hg1, ht1, hv1, hd1, ⟨b1, b2, b3, b4, b5, b6, hg2, ht2, hv2, hd2, _, _⟩, _⟩, _⟩, _⟩ := h
  obtain rfl := Option.some.inj (g64.symm.trans hg1)
  obtain rfl := Option.some.inj (t64.symm.trans ht1)
  obtain rfl := Option.some.inj (gp10.symm.trans hg2)
  obtain rfl := Option.some.inj (tp10.symm.trans ht2)
  rw [data64] at hd1
  rw [datap10] at hd2
  have e1 : Lib.TabIs Tryd.prog W "math/bits.deBruijn64tab" .u8 (Lib.deBruijn64tab.map Int.ofNat) := by
    unfold Lib.TabIs
    rw [hv1, ← Lib.cells_of_tab Tryd.underlying57 Tryd.underlying5 c5 c57 hd1]
  have e2 : Lib.TabIs Tryd.prog W "internal/strconv.uint64pow10" .u64 Lib.pow10Tab := by
    unfold Lib.TabIs
    rw [hv2, ← Lib.cells_of_tab Tryd.underlying66 Tryd.underlying52 c52 c66 hd2]
  refine ⟨fun j hj => ?_, e2⟩
  have := e1.cell g64 j (by rw [List.length_map]; exact hj)
  rw [this]
  simp [List.getD_eq_getElem?_getD, hj]

/-- A matrix that reads as data: its rows. -/
theorem open_matrix {H : Type} {enc : TypeId × Value → H} {W : World} {a : Option Addr} {len cap : Nat} {d : DataW H} {ps : List MemPlace}
    (h : DataW.Trod enc Tryd.prog W 0 (fun _ => true) true 22 (.slice a len cap) d ps) :
    ∃ m : List (List Bool), len = m.length ∧ len ≤ cap ∧ Kd.C (Kd.slice 4 Kd.bool) W a m.length m := by
  obtain ⟨fuel, hf⟩ := h
  rcases Go.Deep.open_bool_rows Tryd.underlying22 Tryd.underlying31 Tryd.underlying4 c31 c4 hf with ⟨hcs, _⟩ | ⟨x, l, c, A, L, C, B, hcs, _, hl, hm, _, hr⟩
  · simp [Value.cells] at hcs
    obtain ⟨rfl, rfl, rfl⟩ := hcs
    exact ⟨[], rfl, Nat.le_refl _, ⟨rfl, by simp, fun h => absurd h (by simp)⟩⟩
  · simp [Value.cells] at hcs
    obtain ⟨rfl, rfl, rfl⟩ := hcs
    have hml : ((List.range len).map fun r => (List.range (L r)).map (B r)).length = len := by simp
    refine ⟨(List.range len).map fun r => (List.range (L r)).map (B r), hml.symm, hl, ?_⟩
    rw [hml]
    unfold maxLen at hm
    refine ⟨hml, by omega, fun _ => ⟨x, rfl, fun j p hj => ?_⟩⟩
    have hjl : j < len := by
      rcases Nat.lt_or_ge j len with h1 | h1
      · exact h1
      · rw [List.getElem?_eq_none (by simpa using h1)] at hj; cases hj
    obtain ⟨h1, h2, h3, h4, h5⟩ := hr j (by omega)
    rw [List.getElem?_map, List.getElem?_range hjl] at hj
    simp only [Option.map_some, Option.some.injEq] at hj
    subst hj
    have hrl : ((List.range (L j)).map (B j)).length = L j := by simp
    refine ⟨[.slice (A j) (L j) (C j)], rfl, ⟨A j, C j, by rw [hrl], by rw [hrl]; exact h2, ?_⟩, fun i u hu => ?_⟩
    · rw [hrl]
      unfold maxLen at h3
      refine ⟨hrl, by omega, fun hpos => ?_⟩
      cases hA : A j with
      | none => have := h4 hA; omega
      | some a' =>
        refine ⟨a', rfl, fun q b hq => ⟨[.bool b], rfl, rfl, fun i u hu => ?_⟩⟩
        have hql : q < L j := by
          rcases Nat.lt_or_ge q (L j) with h6 | h6
          · exact h6
          · rw [List.getElem?_eq_none (by simpa using h6)] at hq; cases hq
        have hi : i = 0 := by
          cases i with
          | zero => rfl
          | succ i => simp at hu
        subst hi
        rw [List.getElem?_map, List.getElem?_range hql] at hq
        simp only [Option.map_some, Option.some.injEq] at hq
        subst hq
        simp at hu
        subst hu
        have := (h5 a' hA).2 q (by omega)
        show W.cell? (a'.add (q * 1 + 0)) = _
        rw [Nat.mul_one, Nat.add_zero]
        exact this
    · have hi : i = 0 := by
        cases i with
        | zero => rfl
        | succ i => simp at hu
      subst hi
      simp at hu
      subst hu
      show W.cell? (x.add (j * 1 + 0)) = _
      rw [Nat.mul_one, Nat.add_zero]
      exact h1

/-- A matrix is no longer than its weight allows. -/
theorem sized_matrix {H : Type} {enc : TypeId × Value → H} {W : World} {a : Option Addr} {len cap : Nat} {d : DataW H} {ps : List MemPlace} {ts : List TypeId} {ds : List (DataW H)} {j : Nat}
    (hsz : (DataW.weightsEach Tryd.prog ts ds).all (· ≤ reachBytes) = true) (ht : ts[j]? = some 22) (hd : ds[j]? = some d)
    (h : DataW.Trod enc Tryd.prog W 0 (fun _ => true) true 22 (.slice a len cap) d ps) : len ≤ 5864062014634 := by
  obtain ⟨fuel, hf⟩ := h
  rcases Go.Deep.open_slice1 Tryd.underlying22 c31 hf with ⟨hcs, _⟩ | ⟨x, l, c, m, n, V, D, Pl, hcs, _, hl, _, hm, hx, _⟩
  · simp [Value.cells] at hcs
    obtain ⟨rfl, rfl, rfl⟩ := hcs
    simp
  · simp [Value.cells] at hcs
    obtain ⟨rfl, rfl, rfl⟩ := hcs
    obtain ⟨hx, _⟩ := Prod.mk.inj hx
    subst hx
    have z := sized_slice hsz ht hd Tryd.underlying22
    rw [b31] at z
    simp only [if_true] at hm
    rw [List.length_map, List.length_range, List.length_map, List.length_range] at z
    unfold reachBytes at z
    omega

set_option maxRecDepth 100000 in
theorem lifted (os : Os) (started : os.Started) (H : Type) (enc : TypeId × Value → H) :
    ReturnsInHanded {} Tryd.checked os 3 .any (fun w args => (Rows.probeChooseMatchesSpecSpec.pre enc Tryd.prog Tryd.f3 [] false w args ∧ laidMetH Tryd.prog laid3 w) ∧ sizedMet enc Tryd.prog Tryd.f3 (OpenSpec.ofChange Rows.probeChooseMatchesSpecSpec) false w args)
      (Rows.probeChooseMatchesSpecSpec.post enc Tryd.prog Tryd.f3 false true false false) := by
  refine returnsInHanded_of_change_and (C := Tryd.checked) (X := fun w _ => laidMetH Tryd.prog laid3 w) (fun _ _ _ hh h => h.of_heap hh) own started (by kernel_rfl) Tryd.func3
    (ChangeSpec.witness_shaped (enc := enc) (C := Tryd.checked) (os := os) (X := fun w _ => laidMetH Tryd.prog laid3 w) false (World.doorLaid Tryd.prog 400 os) #[.slice none 0 0] 8 rfl (World.shaped_of_RefB (by kernel_rfl) (by kernel_rfl)) (by kernel_rfl) (by kernel_rfl) (by kernel_rfl) (door_met os _)) ?_
  intro W base args ds gs before hval0 hW _ hsz0 hL _
  have hsz : (DataW.weightsEach Tryd.prog (Tryd.f3.params.toList ++ Rows.probeChooseMatchesSpecSpec.plain.varTypes Tryd.prog) (ds ++ gs)).all (· ≤ reachBytes) = true := hsz0
  have hval : ∀ (j : Nat) t v, Tryd.f3.params[j]? = some t → args[j]? = some v → Value.okWide Tryd.prog W .any base t v := hval0
  have hW' := hW
  obtain ⟨p, q, hA0, hV, rfl, hfz, hnd⟩ := hW
  have hA : DataW.TrodAll enc Tryd.prog W 0 (fun _ => true) true Tryd.f3.params.toList args.toList ds p := hA0
  rw [Tryd.params3] at hA hval hsz
  obtain ⟨v0, d0, rfl, rfl, h0⟩ := trodAll_one hA
  obtain ⟨rfl, rfl⟩ := trodVars_none hV
  obtain ⟨a0, len0, cap0, rfl⟩ := okWide_slice Tryd.underlying22 (hval 0 22 v0 rfl rfl)
  have lt0 : ∀ x ∈ p, x.block < W.heap.size := by obtain ⟨m, hm⟩ := h0; exact DataW.trod_lt m _ _ _ hm
  obtain ⟨m, rfl, hc, hC⟩ := open_matrix h0
  have hlen := sized_matrix hsz (j := 0) rfl rfl h0
  obtain ⟨hT, hU⟩ := of_laid hL
  clear hA0 hval0 hsz0 hsz
  refine (ChooseLaw.law_any W hC hc hlen hT (Lib.tabBelow_of_tabIs hU)).mono fun e W' ⟨he, bel⟩ => ?_
  subst he
  exact ⟨_, rfl, _, _, _, [], _, [], hW', trodAll_mk1 (shut_bool Tryd.underlying4 _), trodAll_mk1 (Below.trod laidOut (by kernel_rfl) (of_decide_eq_true (by kernel_rfl)) h0 bel lt0), rfl, bel.frame _, fun h => by cases h⟩

theorem over : Rows.ProbeChooseMatchesSpecSaid :=
  OpenClaim.holds_of_wide 3 Tryd.f3 rfl rfl rfl rfl rfl rfl rfl ⟨rfl, rfl, rfl, rfl, rfl⟩ rfl rfl rfl rfl rfl (by kernel_rfl) Tryd.func3 (by kernel_rfl)
    (of_decide_eq_true (by kernel_rfl)) (by unfold Func.isWrapper; first | (rw [if_pos (by decide +kernel)]; kernel_rfl) | (rw [if_neg (by decide +kernel)]; exact ⟨rfl, rfl⟩))
    (fun os started H enc _ => lifted os started H enc)
#print axioms over
end Go.Proofs.YtnagdebioaekoaaDoor.ChooseRow
