/- The walk of the list of a set's bits: it makes a row of its own with them, ascending. -/
import Derived.Test.YtnagdebioaekoaaDoorCmp
namespace Go.Proofs.YtnagdebioaekoaaDoor.ChooseList
open Go.RowKit Go.Proofs.YtnagdebioaekoaaDoor.ChooseMath Go.Proofs.YtnagdebioaekoaaDoor.ChooseBits Go.Proofs.YtnagdebioaekoaaDoorW.PrintWords
set_option linter.unusedVariables false

theorem info3 : (Tryd.prog.info? 3).map (fun i => (i.zero, i.size, i.bytes)) = some (some (.int .i64 0), 1, 8) := by kernel_rfl

def vals (l : List Nat) : List Value := (ints l).map (Value.int .i64)
theorem vals_len (l : List Nat) : (vals l).length = l.length := by unfold vals ints; simp
theorem vals_snoc (l : List Nat) (a : Nat) : vals (l ++ [a]) = vals l ++ [.int .i64 (a : Int)] := by unfold vals ints; simp

/-- A row of the call's own with these numbers. -/
def Gives (l : List Nat) (w : World) (e : Ending) (w' : World) : Prop := ∃ v, e = .returned v ∧ w'.ownsRow w.heap.size 3 1 v l.length (vals l) ∧ Below w.heap.size w w'

theorem tab_below {w w' : World} (h : TabAt 1 Lib.deBruijn64tab w) (hb : Below w.heap.size w w') : TabAt 1 Lib.deBruijn64tab w' := fun j hj => pw_cell_below hb (h j hj)

theorem and_dec (s : Nat) (h0 : s ≠ 0) (h : s < 65536) : Go.bits .and .u64 (s : Int) ((s : Int) - 1) = ((s &&& (s - 1) : Nat) : Int) := by
  rw [show (s : Int) - 1 = ((s - 1 : Nat) : Int) by omega]
  exact bits_and_u64_nat s (s - 1) (by omega) (by omega)

/-- What a round's head knows: the number that is left, and the row so far. -/
def LRel (s : Nat) (w : World) (x v : Value) (wr : World) : Prop := ∃ (t : Nat) (done : List Nat), x = .int .u64 (t : Int) ∧ t < 65536 ∧ bitsOf s = done ++ bitsOf t ∧ done.length ≤ 16 ∧ wr.ownsRow w.heap.size 3 1 v done.length (vals done) ∧ Below w.heap.size w wr

theorem bits_le (s : Nat) : (bitsOf s).length ≤ 16 := by
  unfold bitsOf
  exact Nat.le_trans (List.length_filter_le _ _) (by simp)

theorem lrel_step {s : Nat} {w wr w1 : World} {v v' : Value} {t : Nat} {done : List Nat} (ht0 : t ≠ 0) (ht : t < 65536) (hs : bitsOf s = done ++ bitsOf t) (hb : Below w.heap.size w wr)
    (o : Obj)
    (hown : w1.ownsRow w.heap.size 3 1 v' (done.length + 1) (vals done ++ [.int .i64 (Lib.ctz 64 t : Int)])) (hg : (wr.alloc o).grownBy w1 v.ownBlock) (hv : wr.ownsRow w.heap.size 3 1 v done.length (vals done)) :
    LRel s w (.int .u64 ((t &&& (t - 1) : Nat) : Int)) v' w1 := by
  obtain ⟨h1, h2, h3⟩ := bits_step t ht0 ht
  have hd : bitsOf s = (done ++ [Lib.ctz 64 t]) ++ bitsOf (t &&& (t - 1)) := by rw [hs, h1]; simp
  refine ⟨t &&& (t - 1), done ++ [Lib.ctz 64 t], rfl, by omega, hd, ?_, ?_, ?_⟩
  · have := bits_le s
    rw [hd, List.length_append] at this
    omega
  · rw [vals_snoc, List.length_append]; exact hown
  · exact (hb.alloc hb.size o).grown hg (by have := hb.size; simp; omega) (own_base hv)

set_option maxHeartbeats 1000000 in
theorem list_any (s : Nat) (hs : s < 65536) (w : World) (hT : TabAt 1 Lib.deBruijn64tab w) :
    Calls Tryd.prog 11 #[.int .u64 (s : Int)] w (Gives (bitsOf s) w) := by
  have HT := Lib.hid hT
  clear hT
  obtain ⟨i0, hi, hz0, hz1, hz2⟩ := info_parts info3
  have HI := Lib.hid hi
  have HZ0 := Lib.hid hz0
  have HZ1 := Lib.hid hz1
  have HZ2 := Lib.hid hz2
  clear hi hz0 hz1 hz2
  go_enter Tryd.func11, Tryd.ntmps11
  go_wp2
  go_loopw [0, 3] (fun x v wr => LRel s w x v wr) (fun x _ _ => (intOf x).toNat)
  case atStart => exact ⟨s, [], rfl, hs, rfl, by simp, ⟨rfl, .inl ⟨rfl, rfl⟩⟩, Below.refl _ _⟩
  case round =>
    obtain ⟨t, done, rfl, ht, hd, hdl, hown, hb⟩ := hrel
    by_cases h0 : t = 0
    · subst h0
      have HD := Lib.hid hd
      have HOWN := Lib.hid hown
      clear hd hown
      go_wp2
      go_ret
      have e : done = bitsOf s := by rw [HD.out, bitsOf_zero, List.append_nil]
      exact ⟨_, rfl, by rw [← e]; exact HOWN.out, hb⟩
    · have hn : ((t : Int) != 0) = true := by rw [bne_iff_ne]; omega
      have hsub : IntKind.u64.wrap ((t : Int) - 1) = (t : Int) - 1 := by rw [IntKind.wrap_u64]; omega
      have hand := and_dec t h0 ht
      have HS := Lib.hid (bits_step t h0 ht)
      have HD := Lib.hid hd
      have HOWN := Lib.hid hown
      have HT' := Lib.hid (tab_below HT.out hb)
      clear hd hown
      go_wp2_with fail
      refine (tz_any t h0 ht _ HT'.out).mono ?_
      rintro e w' ⟨rfl, rfl⟩
      have hroom : done.length + 1 ≤ maxLen := by unfold maxLen; omega
      have hroom2 : (done.length + 1) * 8 ≤ 140737488355328 := by omega
      go_wp2_with (at_builtin; refine wpList_append_own _ rfl _ _ 23 rfl w.heap.size 3 i0 (.int .i64 0) 1 8 Tryd.underlying23 HI.out HZ0.out HZ1.out HZ2.out rfl (by decide) _ _ _ rfl (HOWN.out.alloc _) ⟨wr.heap.size, 0, none⟩ 1 1 [.int .i64 (Lib.ctz 64 t)] rfl rfl ?c1 ?c2 hroom hroom2 ?c5 ?_)
      case c1 => intro j u hj; rw [add_plain, World.cell?_alloc_at _ _ _ _ rfl]; cases j with | zero => simpa using hj | succ j => simp at hj
      case c2 => intro u hu; rw [List.mem_singleton.1 hu]; rfl
      case c5 => have := hb.size; simp; omega
      intro v' w1 hown' hgrow _
      have hstep := lrel_step h0 ht HD.out hb _ hown' hgrow HOWN.out
      have HSTEP := Lib.hid hstep
      have HLT := Lib.hid HS.out.2.1
      clear hown' hgrow hstep
      go_wp2
      go_roundw
      case rel => exact HSTEP.out
      case measure => have := HLT.out; simp [intOf]; omega

end Go.Proofs.YtnagdebioaekoaaDoor.ChooseList
