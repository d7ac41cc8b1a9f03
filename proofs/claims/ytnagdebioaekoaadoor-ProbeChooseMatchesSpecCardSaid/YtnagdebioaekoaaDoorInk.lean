/- The walks of the ink: what it writes is a function of the numbers alone. -/
import Derived.Test.YtnagdebioaekoaaDoorBefore
import Derived.Test.YtnagdebioaekoaaDoorShelf
import Derived.OneCell
import Derived.Lib.ItoaLen
namespace Go.Proofs.YtnagdebioaekoaaDoor.ChooseInk
open Go.RowKit Go.Proofs.YtnagdebioaekoaaDoor.ChooseMath Go.Proofs.YtnagdebioaekoaaDoor.ChooseBits Go.Proofs.YtnagdebioaekoaaDoor.ChooseList Go.Proofs.YtnagdebioaekoaaDoorW.PrintWords
set_option linter.unusedVariables false

abbrev T10 (B : Nat) (w : World) : Prop := Lib.TabBelow Tryd.prog B w "internal/strconv.uint64pow10" .u64 Lib.pow10Tab

theorem info5 : (Tryd.prog.info? 5).map (fun i => (i.zero, i.size, i.bytes)) = some (some (.int .u8 0), 1, 1) := by kernel_rfl

/-- Block g is an ink in which these bytes are written. -/
def IsInk (w : World) (B g : Nat) (bs : List UInt8) : Prop := B ≤ g ∧ ∃ v, w.heap[g]? = some (.cells #[v] 40 (0, 0)) ∧ w.ownsRow B 5 1 v bs.length (Lib.byteCells bs)

/-- An integer as it is written. -/
def num (i : Int) : List UInt8 := Lib.itoa i ++ [32]

theorem ink_ne {w : World} {B g : Nat} {v x : Value} {n : Nat} {xs : List Value} (hown : w.ownsRow B 5 1 v n xs) (hg : w.heap[g]? = some (.cells #[x] 40 (0, 0))) : v.ownBlock ≠ some g := by
  intro e
  obtain ⟨cells, hc⟩ := own_typed hown g e
  rw [hc] at hg
  injection hg with hg
  injection hg with _ hg
  exact absurd hg (by decide)

theorem own_slice {w : World} {B : Nat} {e : TypeId} {v : Value} {n : Nat} {xs : List Value} (h : w.ownsRow B e 1 v n xs) : ∃ A c, v = .slice A n c := by
  rcases h.2 with ⟨rfl, rfl⟩ | ⟨g, cap, cur, rfl, _⟩
  · exact ⟨_, _, rfl⟩
  · exact ⟨_, _, rfl⟩

theorem num_len (i : Int) : (num i).length = (Lib.itoa i).length + 1 := by unfold num; simp

set_option maxHeartbeats 1000000 in
theorem int_any (B g : Nat) (bs : List UInt8) (i : Int) (h0 : -9223372036854775808 ≤ i) (h1 : i ≤ 9223372036854775807) (w : World) (hk : IsInk w B g bs) (hl : bs.length ≤ 1000000) (hT : T10 B w) :
    Calls Tryd.prog 19 #[.pointer (some ⟨g, 0, none⟩), .int .i64 i] w fun e w' => e = .returned (.tuple #[]) ∧ IsInk w' B g (bs ++ num i) ∧ Below B w w' := by
  have hil := Lib.itoa_length_le i h0 h1
  obtain ⟨hBg, v, hg, hown⟩ := hk
  have hcell := cell_of_one hg
  have hBw : B ≤ w.heap.size := Nat.le_of_lt (Nat.lt_of_le_of_lt hBg (lt_of_block hg))
  have HT := Lib.hid hT
  have HG := Lib.hid hg
  have HOWN := Lib.hid hown
  clear hT hown hg
  obtain ⟨i0, hi, hz0, hz1, hz2⟩ := info_parts info5
  have HI := Lib.hid hi
  have HZ0 := Lib.hid hz0
  have HZ1 := Lib.hid hz1
  have HZ2 := Lib.hid hz2
  clear hi hz0 hz1 hz2
  go_enter Tryd.func19, Tryd.ntmps19
  go_wp2_with fail
  refine (Tryd.strconv_AppendInt_10 B bs.length i h0 h1 v (Lib.byteCells bs) _ HOWN.out hBw (by omega) HT.out).mono ?_
  rintro e w1 ⟨v1, rfl, hown1, hb1, hok1⟩
  obtain ⟨A1, c1, rfl⟩ := own_slice hown1
  clear hcell
  have hg1 : w1.heap[g]? = some (.cells #[v] 40 (0, 0)) := hok1 _ _ HG.out (by simp) (by intro c fz h; injection h with h1 h2; exact absurd h2 (by decide))
  have hne1 := ink_ne hown1 hg1
  have hcell1 := cell_of_one hg1
  have hfree1 := free_of_one hg1
  have HG1 := Lib.hid hg1
  have HO1 := Lib.hid (ownsRow_setCell_other hown1 (a := ⟨g, 0, none⟩) hne1 (.slice A1 (bs.length + (Lib.itoa i).length) c1))
  have hlt1 := lt_of_block hg1
  have HNE1 := Lib.hid hne1
  clear hown1 hg1 hok1 hne1
  have hroom : bs.length + (Lib.itoa i).length + 1 ≤ maxLen := by unfold maxLen; omega
  have hroom2 : (bs.length + (Lib.itoa i).length + 1) * 1 ≤ 140737488355328 := by omega
  go_wp2_with (at_builtin; refine wpList_append_own _ rfl _ _ 38 rfl B 5 i0 (.int .u8 0) 1 1 Tryd.underlying38 HI.out HZ0.out HZ1.out HZ2.out rfl (by decide) _ _ _ rfl (HO1.out.alloc _) ⟨w1.heap.size, 0, none⟩ 1 1 [.int .u8 32] rfl rfl ?c1 ?c2 hroom hroom2 ?c5 ?_)
  case c1 => intro j u hj; rw [add_plain, World.cell?_alloc_at _ _ _ _ (by simp)]; cases j with | zero => simpa using hj | succ j => simp at hj
  case c2 => intro u hu; rw [List.mem_singleton.1 hu]; rfl
  case c5 => simp; omega
  intro v2 w2 hown2 hgrow _
  obtain ⟨A2, c2, rfl⟩ := own_slice hown2
  have hgs := one_setCell HG1.out (u := .slice A1 (bs.length + (Lib.itoa i).length) c1)
  have hgs2 : w2.heap[g]? = some (.cells #[.slice A1 (bs.length + (Lib.itoa i).length) c1] 40 (0, 0)) := by
    have h3 := hgrow.block g (by simp; omega) (fun e => HNE1.out e.symm)
    rw [h3]
    exact (Below.heap_alloc _ _ g (by simpa using hlt1)).trans hgs
  have hfree2 := free_of_one hgs2
  have hcell2 := cell_of_one hgs2
  have hne2 := ink_ne hown2 hgs2
  have HO2 := Lib.hid (ownsRow_setCell_other hown2 (a := ⟨g, 0, none⟩) hne2 (.slice A2 (bs.length + (Lib.itoa i).length + 1) c2))
  have HGS := Lib.hid (one_setCell hgs2 (u := .slice A2 (bs.length + (Lib.itoa i).length + 1) c2))
  have HB1 := Lib.hid hb1
  have HG := Lib.hid hgrow
  clear hown2 hgs hgs2 hgrow hb1 hne2 hcell1 hfree1
  go_wp2
  go_end0
  refine ⟨rfl, ⟨hBg, _, HGS.out, ?_⟩, ?_⟩
  · have e1 : (bs ++ num i).length = bs.length + (Lib.itoa i).length + 1 := by rw [List.length_append, num_len]; omega
    have e2 : Lib.byteCells (bs ++ num i) = Lib.byteCells bs ++ Lib.byteCells (Lib.itoa i) ++ [.int .u8 32] := by unfold num Lib.byteCells; simp
    rw [e1, e2, List.append_assoc]
    exact HO2.out
  · have h1 : Below B w1 (w1.setCell ⟨g, 0, none⟩ (.slice A1 (bs.length + (Lib.itoa i).length) c1)) := (Below.refl _ _).setCell hBg _
    have hz : B ≤ (w1.setCell ⟨g, 0, none⟩ (.slice A1 (bs.length + (Lib.itoa i).length) c1)).heap.size := by simp; omega
    have h2 := ((h1.alloc hz _).grown HG.out (by simp; omega) (own_base HO1.out)).setCell (p := ⟨g, 0, none⟩) hBg (.slice A2 (bs.length + (Lib.itoa i).length + 1) c2)
    exact HB1.out.trans h2

end Go.Proofs.YtnagdebioaekoaaDoor.ChooseInk
