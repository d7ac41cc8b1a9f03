/- The walk of the program's Choose where it chooses: the sets of the rows in a map, then the least set of columns that meets each. -/
import Derived.Test.YtnagdebioaekoaaDoorProbe
namespace Go.Proofs.YtnagdebioaekoaaDoor.ChooseProbe
open Go.RowKit Go.Maps Go.Proofs.YtnagdebioaekoaaDoor.ChooseMath Go.Proofs.YtnagdebioaekoaaDoor.ChooseBits Go.Proofs.YtnagdebioaekoaaDoor.ChooseList Go.Proofs.YtnagdebioaekoaaDoor.ChooseRef Go.Proofs.YtnagdebioaekoaaDoor.PProbeChooseMatchesSpec Go.Proofs.YtnagdebioaekoaaDoorW.PrintWords
set_option linter.unusedVariables false

section
variable {m : List (List Bool)} {n : Nat} {A : Option Addr} {cm : Nat}

/-- The sets of the first rows. -/
def masks (m : List (List Bool)) (n i : Nat) : List Nat := (m.take i).map fun row => maskTo row n

/-- What a head of the loop over the rows knows: the box, and the map in it. -/
def MRel (m : List (List Bool)) (n : Nat) (w : World) (i : Nat) (wr : World) : Prop :=
  ∃ D : DataW Unit, wr.ownsMap Tryd.prog 33 El w.heap.size i D ∧ Maps.IsMap D ∧ Keys D (masks m n i) ∧ wr.heap[w.heap.size + 1]? = some (.cells #[.map (some w.heap.size)] 32 (0, 0)) ∧ Below w.heap.size w wr

theorem masks_step {i : Nat} (h : i < m.length) : masks m n (i + 1) = masks m n i ++ [maskTo (m.getD i []) n] := by
  unfold masks
  rw [List.take_succ_eq_append_getElem h, List.map_append]
  simp [List.getD_eq_getElem?_getD, h]

theorem keys_put {D : DataW Unit} {S : List Nat} (hm : Maps.IsMap D) (hk : Keys D S) (r : Nat) (d : DataW Unit) : Keys (D.put (.int .u64 (r : Int)) d) (S ++ [r]) := by
  intro x
  by_cases e : x = (r : Int)
  · subst e
    rw [Maps.has_put_same hm (by trivial)]
    simp
  · rw [Maps.has_put_other (by intro h; injection h with _ h; exact e h), hk x]
    constructor
    · rintro ⟨q, hq, rfl⟩
      exact ⟨q, List.mem_append_left _ hq, rfl⟩
    · rintro ⟨q, hq, rfl⟩
      rcases List.mem_append.1 hq with hq | hq
      · exact ⟨q, hq, rfl⟩
      · rw [List.mem_singleton.1 hq] at e; exact absurd rfl e

theorem mask_or {row : List Bool} {k : Nat} (hk : k < 16) (h : row.getD k false = true) : Go.bits .or .u64 (maskTo row k : Int) (IntKind.u64.wrap (2 ^ k)) = (maskTo row (k + 1) : Int) := by
  have hp : 2 ^ k < 65536 := Nat.pow_lt_pow_right (a := 2) (by omega) hk
  have hm := maskTo_lt row k
  have e : IntKind.u64.wrap ((2 : Int) ^ k) = ((2 ^ k : Nat) : Int) := by
    rw [show (2 : Int) ^ k = ((2 ^ k : Nat) : Int) by simp]
    exact u64w _ (by omega)
  rw [e, bits_or_u64_nat _ _ (by omega) (by omega)]
  unfold maskTo
  rw [if_pos h]
  cases k <;> rfl
theorem mask_same {row : List Bool} {k : Nat} (h : row.getD k false = false) : maskTo row (k + 1) = maskTo row k := by
  rw [maskTo, if_neg (by rw [h]; exact Bool.false_ne_true)]

theorem keys_del {D : DataW Unit} {S : List Nat} (hk : Keys D S) : Keys (D.del (.int .u64 0)) (S.filter (· != 0)) := by
  intro x
  by_cases e : x = 0
  · subst e
    rw [Maps.has_del_same]
    simp only [Bool.false_eq_true, List.mem_filter, bne_iff_ne, false_iff]
    rintro ⟨r, ⟨_, hr⟩, h⟩
    exact hr (by omega)
  · rw [Maps.has_del_other (by intro h; injection h with _ h; exact e h), hk x]
    constructor
    · rintro ⟨r, hr, rfl⟩
      exact ⟨r, List.mem_filter.2 ⟨hr, by rw [bne_iff_ne]; omega⟩, rfl⟩
    · rintro ⟨r, hr, rfl⟩
      exact ⟨r, (List.mem_filter.1 hr).1, rfl⟩
theorem meets_cov (m : List (List Bool)) (n s : Nat) : meets ((masks m n m.length).filter (· != 0)) s = covN m n s := by
  unfold meets masks covN
  rw [List.take_length]
  induction m with
  | nil => rfl
  | cons row m ih =>
    rw [List.map_cons, List.filter_cons, List.all_cons, ← ih]
    by_cases h : maskTo row n = 0
    · rw [h]; simp
    · have h1 : (maskTo row n != 0) = true := by rw [bne_iff_ne]; exact h
      have h2 : (maskTo row n == 0) = false := by rw [beq_eq_false_iff_ne]; exact h
      rw [if_pos h1, List.all_cons, h2, Bool.false_or]
theorem masks_lt {m : List (List Bool)} {n i : Nat} (hn : n ≤ 16) : ∀ r ∈ (masks m n i).filter (· != 0), r < 65536 := by
  intro r hr
  obtain ⟨row, _, rfl⟩ := List.mem_map.1 (List.mem_filter.1 hr).1
  exact Nat.lt_of_lt_of_le (maskTo_lt row n) (Nat.pow_le_pow_right (n := 2) (by omega) hn)

theorem map_below {w w' : World} {b k : Nat} {D : DataW Unit} (h : w.ownsMap Tryd.prog 33 El b k D) (hb : Below w.heap.size w w') : w'.ownsMap Tryd.prog 33 El b k D := by
  have hlt := h.lt
  obtain ⟨es, clock, hh, r⟩ := h
  exact ⟨es, clock, by rw [hb.block b hlt]; exact hh, r⟩
theorem below_turned {B : Nat} {a w w' : World} {b : Nat} (h : Below B a w) (ht : w.mapTurned w' b) (hB : B ≤ w.heap.size) (hb : B ≤ b) : Below B a w' :=
  h.grown ht.grown hB (fun k hk => by cases hk; exact hb)

/-- What a head of the search knows. -/
def SRel (m : List (List Bool)) (n F : Nat) (w : World) (i : Nat) (b : Value) (wr : World) : Prop :=
  b = .int .u64 (bestTo m n i : Int) ∧ i ≤ F ∧ bestTo m n i < 65536 ∧ (∃ D : DataW Unit, wr.ownsMap Tryd.prog 33 El w.heap.size m.length D ∧ Keys D ((masks m n m.length).filter (· != 0))) ∧
  wr.heap[w.heap.size + 1]? = some (.cells #[.map (some w.heap.size)] 32 (0, 0)) ∧ Below w.heap.size w wr

/-- The head of the next round. -/
theorem srel_next {m : List (List Bool)} {n F : Nat} {w wr w5 : World} {i best b' : Nat} {D : DataW Unit} (hi : i < F) (hF : F < 65536) (hb : bestTo m n i = best) (hb16 : best < 65536)
    (hb' : (if (beforeN i best && covN m n i) = true then i else best) = b')
    (hown : wr.ownsMap Tryd.prog 33 El w.heap.size m.length D) (hkeys : Keys D ((masks m n m.length).filter (· != 0))) (hbox : wr.heap[w.heap.size + 1]? = some (.cells #[.map (some w.heap.size)] 32 (0, 0))) (hbr : Below w.heap.size w wr) (h5 : Below wr.heap.size wr w5) :
    SRel m n F w (i + 1) (.int .u64 (b' : Int)) w5 := by
  have hstep : bestTo m n (i + 1) = b' := by rw [← hb', ← hb]; rfl
  refine ⟨by rw [hstep], hi, ?_, ⟨D, map_below hown h5, hkeys⟩, ?_, hbr.trans (h5.mono hbr.size)⟩
  · rw [hstep, ← hb']
    split
    · omega
    · exact hb16
  · rw [h5.block _ (lt_of_block hbox)]
    exact hbox

set_option maxHeartbeats 4000000 in
theorem probe_fine (w : World) (hC : Kd.C (Kd.slice 4 Kd.bool) w A m.length m) (h0 : 0 < m.length) (hbig : m.length ≤ 2000) (hn : n ≤ 16) (hr : Rect m n) (hT : TabAt 1 Lib.deBruijn64tab w) :
    Calls Tryd.prog 4 #[.slice A m.length cm] w (GivesE (bitsOf (bestTo m n (2 ^ n - 1))) 0 w) := by
  have hrow : ∀ i, i < m.length → ChooseRef.rowLen m i = n := fun i hi => by
    unfold ChooseRef.rowLen
    rw [List.getD_eq_getElem?_getD, List.getElem?_eq_getElem hi]
    exact hr _ (List.getElem_mem hi)
  have HROW := Lib.hid hrow
  have HC := Lib.hid hC
  have HT := Lib.hid hT
  have HR := Lib.hid hr
  clear hC hT hr hrow
  have hmm := @run_makeMap Tryd.prog
  have hmf : ∀ (fn : Fn) (first cap : Array Value) (w : World), (Instr.makeFunc fn first cap).run Tryd.prog w = .ok (.func fn first cap) w := fun _ _ _ _ => rfl
  have hpn : 2 ^ n ≤ 65536 := Nat.pow_le_pow_right (n := 2) (by omega) hn
  have hpn0 := Nat.two_pow_pos n
  obtain ⟨F, hF⟩ : ∃ F, 2 ^ n - 1 = F := ⟨_, rfl⟩
  have hfull : IntKind.u64.wrap (IntKind.u64.wrap ((2 : Int) ^ n) - 1) = (F : Int) := by
    rw [show (2 : Int) ^ n = ((2 ^ n : Nat) : Int) by simp, u64w _ (by omega)]
    rw [IntKind.wrap_u64]; omega
  have HFULL := Lib.hid hfull
  have HF := Lib.hid hF
  have hF16 : F < 65536 := by omega
  have hlast : bestTo m n 0 = F := hF
  have HB0 := Lib.hid hlast
  rw [hF]
  clear hfull hF hpn hpn0 hlast
  go_enter Tryd.func4, Tryd.ntmps4
  go_wp2
  go_loop [17] (fun x => ∃ i : Nat, x = .int .i64 (i : Int) ∧ i ≤ m.length) (fun x => m.length + 1 - (intOf x).toNat)
  case atStart => exact ⟨0, rfl, Nat.zero_le _⟩
  case round =>
    obtain ⟨i, rfl, hij⟩ := hrel
    obtain ⟨ad', A1, c1, e', hcell0, hl1, _⟩ := at_L2 HC.out (0 : Int) (by omega) (by omega)
    subst e'
    have e2 : (rd_L2 m (0 : Int)).length = n := HROW.out 0 h0
    rw [e2, show (0 : Int).toNat = 0 from rfl] at hcell0
    have hz0 : w.cell? ad' = some (.slice A1 n c1) := hcell0
    have p2 : ((0 : Int) < (m.length : Int)) = True := eq_true (by omega)
    clear hl1 e2 hcell0
    by_cases hi : i < m.length
    · obtain ⟨ad, A0, c0, e', hcell, hl0, _⟩ := at_L2 HC.out (i : Int) (by omega) (by omega)
      cases e'
      have e1 : (rd_L2 m (i : Int)).length = n := by have := HROW.out i hi; unfold rd_L2; rw [Int.toNat_natCast]; exact this
      rw [e1, Int.toNat_natCast] at hcell
      have p1 : ((i : Int) < (m.length : Int)) = True := eq_true (by omega)
      clear hl0 e1
      go_wp2
      go_round
      case rel => exact ⟨i + 1, by go_num, by omega⟩
      case measure => simp [intOf]; omega
    · have hd1 : decide ((2000 : Int) < (m.length : Int)) = false := decide_eq_false (by omega)
      have hd2 : decide ((16 : Int) < (n : Int)) = false := decide_eq_false (by omega)
      go_wp2
      have hm0 : MRel m n w 0 ((w.alloc (.map #[] 0)).alloc (.cells #[.map (some w.heap.size)] 32)) :=
        ⟨_, (World.ownsMap_made w _ _ _).alloc _, Maps.isMap_empty, fun x => by simp [masks, Maps.has], by simpa using ChooseInk.heap_alloc_at (w.alloc (.map #[] 0)) (.cells #[.map (some w.heap.size)] 32), ((Below.refl _ _).alloc (Nat.le_refl _) _).alloc (by simp) _⟩
      go_loopw [50] (fun x wr => ∃ i : Nat, x = .int .i64 (i : Int) ∧ i ≤ m.length ∧ MRel m n w i wr) (fun x _ => m.length + 1 - (intOf x).toNat)
      case atStart => exact ⟨0, rfl, Nat.zero_le _, hm0⟩
      case round =>
        clear hm0
        obtain ⟨i2, rfl, hij2, hmr⟩ := hrel
        obtain ⟨D, hown, hmap, hkeys, hbox, hb⟩ := hmr
        have HOWN := Lib.hid hown
        have HMAP := Lib.hid hmap
        have HKEYS := Lib.hid hkeys
        have HBOX := Lib.hid hbox
        have HB := Lib.hid hb
        have hcb := cell_of_one hbox
        have HZ0 := Lib.hid hz0
        clear hown hmap hkeys hbox hb hz0
        by_cases hi2 : i2 < m.length
        · obtain ⟨ad2, A2, c2, e', hcell2, hl2, hB2⟩ := at_L2 (Kd.C_below HC.out HB.out) (i2 : Int) (by omega) (by omega)
          cases e'
          have e1 : (rd_L2 m (i2 : Int)).length = n := by have := HROW.out i2 hi2; unfold rd_L2; rw [Int.toNat_natCast]; exact this
          have e3 : rd_L2 m (i2 : Int) = m.getD i2 [] := by unfold rd_L2; rw [Int.toNat_natCast]
          have HMS : Hid (masks m n (i2 + 1) = masks m n i2 ++ [maskTo (rd_L2 m (i2 : Int)) n]) := Lib.hid (by rw [e3]; exact masks_step hi2)
          clear e3
          generalize rd_L2 m (i2 : Int) = row at *
          rw [e1, Int.toNat_natCast] at hcell2
          rw [e1] at hB2
          have HB2 := Lib.hid hB2
          have p1 : ((i2 : Int) < (m.length : Int)) = True := eq_true (by omega)
          clear hl2 e1 hB2
          go_wp2
          obtain ⟨wo, rfl⟩ : ∃ wo : World, wo = wr := ⟨_, rfl⟩
          go_loop [9, 56] (fun s x => ∃ k : Nat, x = .int .i64 (k : Int) ∧ k ≤ n ∧ s = .int .u64 (maskTo row k : Int)) (fun _ x => n + 1 - (intOf x).toNat)
          case atStart => exact ⟨0, rfl, Nat.zero_le _, rfl⟩
          case round =>
            obtain ⟨k, rfl, hk, rfl⟩ := hrel
            by_cases hkn : k < n
            · obtain ⟨ad3, rfl, hc3⟩ := Kd.at_bool HB2.out (k : Int) (by omega) (by omega)
              have e4 : rdOf false row (k : Int) = row.getD k false := by unfold rdOf; rw [Int.toNat_natCast]
              rw [e4, Int.toNat_natCast] at hc3
              clear e4
              cases hbk : row.getD k false with
              | true =>
                rw [hbk] at hc3
                have HOR := Lib.hid (mask_or (by omega) hbk)
                clear hbk
                go_wp2
                go_round
                case rel => exact ⟨k + 1, by go_num, by omega, by rw [HOR.out]⟩
                case measure => simp [intOf]; omega
              | false =>
                rw [hbk] at hc3
                have HSM := Lib.hid (mask_same hbk)
                clear hbk
                go_wp2
                go_round
                case rel => exact ⟨k + 1, by go_num, by omega, by rw [HSM.out]⟩
                case measure => simp [intOf]; omega
            · obtain rfl : n = k := by omega
              have hwf : (Lit.int .u64 (maskTo row n : Int)).wf = true := by
                have := maskTo_lt row n
                have := Nat.pow_le_pow_right (n := 2) (by omega) hn
                exact WalkArith.wf_u64 ⟨by omega, by omega⟩
              have HWF := Lib.hid hwf
              clear hwf
              go_wp2_with (first
                | (at_mapUpdate; refine wpList_mapUpdate_own _ rfl _ _ _ 32 rfl 33 4 law33 Tryd.underlying32 _ w.heap.size i2 D rfl HOWN.out (by unfold maxLen; omega) _ _ (.int .u64 (maskTo row n : Int)) rfl rfl (keyOf_int_mk Tryd.underlying33 HWF.out) _ [] (plainElem_bool Tryd.underlying4 true) ?_; intro w1 hown1 hg1)
                | go_in)
              have HM1 : Hid (MRel m n w (i2 + 1) w1) := Lib.hid ⟨_, hown1, HMAP.out.put _ _, by rw [HMS.out]; exact keys_put HMAP.out HKEYS.out _ _, (hg1.block _ (lt_of_block HBOX.out) (by simp)).trans HBOX.out, HB.out.grown hg1 HB.out.size (fun k hk => by cases hk; exact Nat.le_refl _)⟩
              clear hown1 hg1
              go_wp2
              go_roundw
              case rel => exact ⟨i2 + 1, by go_num, by omega, HM1.out⟩
              case measure => simp [intOf]; omega
        · obtain rfl : i2 = m.length := by omega
          have hfull := HFULL.out
          have hz1 := pw_cell_below HB.out HZ0.out
          have hzm : (Lit.int .u64 (0 : Int)).wf = true := by decide
          have HZM := Lib.hid hzm
          clear hzm
          go_wp2_with (first
            | (at_delete; refine wpList_delete_own _ rfl _ _ 32 33 rfl 4 law33 Tryd.underlying32 _ w.heap.size m.length D rfl HOWN.out _ _ rfl (keyOf_int_mk Tryd.underlying33 HZM.out) ?_; intro w1 hown1 hturn1; have HB1 := Lib.hid (below_turned HB.out hturn1 HB.out.size (Nat.le_refl _)); have hz2 := pw_cell_below HB1.out HZ0.out; have HOWN1 := Lib.hid hown1; have HBOX1 := Lib.hid ((hturn1.grown.block _ (lt_of_block HBOX.out) (by simp)).trans HBOX.out); clear hown1 hturn1)
            | go_in)
          have hs0 : SRel m n F w 0 (.int .u64 (F : Int)) w1 := ⟨by rw [HB0.out], Nat.zero_le _, by rw [HB0.out]; exact hF16, ⟨_, HOWN1.out, keys_del HKEYS.out⟩, HBOX1.out, HB1.out⟩
          have HS0 := Lib.hid hs0
          clear hs0 hz1 hz2 hcb
          go_loopw [13, 79] (fun b x wr => ∃ i : Nat, x = .int .u64 (i : Int) ∧ SRel m n F w i b wr) (fun _ x _ => F + 1 - (intOf x).toNat)
          case atStart => exact ⟨0, rfl, HS0.out⟩
          case round =>
            obtain ⟨i3, rfl, rfl, hi3, hb16, ⟨D3, hown3, hkeys3⟩, hbox3, hb3⟩ := hrel
            have HOWN3 := Lib.hid hown3
            have HKEYS3 := Lib.hid hkeys3
            have HBOX3 := Lib.hid hbox3
            have HB3 := Lib.hid hb3
            have HT3 := Lib.hid (tab_below HT.out hb3)
            clear hown3 hkeys3 hbox3 hb3
            by_cases hif : i3 < F
            · obtain ⟨best, hbest⟩ : ∃ best, bestTo m n i3 = best := ⟨_, rfl⟩
              rw [hbest] at hb16 ⊢
              have HBEST := Lib.hid hbest
              clear hbest
              go_wp2_with fail
              refine (before_any i3 best (by omega) hb16 _ HT3.out).mono ?_
              rintro e w4 ⟨rfl, hb4⟩
              have HB4 := Lib.hid hb4
              have HBOX4 := Lib.hid ((hb4.block _ (lt_of_block HBOX3.out)).trans HBOX3.out)
              have hbc := cell_of_one HBOX4.out
              clear hb4
              cases hbf : beforeN i3 best with
              | true =>
                have HBF := Lib.hid hbf
                clear hbf
                go_wp2_with fail
                refine (covers_any (w.heap.size + 1) w.heap.size m.length i3 (by omega) ((masks m n m.length).filter (· != 0)) (masks_lt hn) D3 _ (map_below HOWN3.out HB4.out) HKEYS3.out HBOX4.out).mono ?_
                rintro e w5 ⟨rfl, hg5⟩
                have HB5 : Hid (Below wr.heap.size wr w5) := Lib.hid (HB4.out.grown hg5 HB4.out.size (fun k hk => by cases hk))
                have HCOV := Lib.hid (meets_cov m n i3)
                clear hg5
                cases hcv : meets ((masks m n m.length).filter (· != 0)) i3 with
                | true =>
                  have HNEXT := Lib.hid (srel_next (b' := i3) hif hF16 HBEST.out hb16 (by rw [HBF.out, ← HCOV.out, hcv]; rfl) HOWN3.out HKEYS3.out HBOX3.out HB3.out HB5.out)
                  clear hcv
                  go_wp2
                  go_roundw
                  case rel => exact ⟨i3 + 1, by go_num, HNEXT.out⟩
                  case measure => simp [intOf]; omega
                | false =>
                  have HNEXT := Lib.hid (srel_next (b' := best) hif hF16 HBEST.out hb16 (by rw [HBF.out, ← HCOV.out, hcv]; rfl) HOWN3.out HKEYS3.out HBOX3.out HB3.out HB5.out)
                  clear hcv
                  go_wp2
                  go_roundw
                  case rel => exact ⟨i3 + 1, by go_num, HNEXT.out⟩
                  case measure => simp [intOf]; omega
              | false =>
                have HNEXT := Lib.hid (srel_next (b' := best) hif hF16 HBEST.out hb16 (by rw [hbf]; rfl) HOWN3.out HKEYS3.out HBOX3.out HB3.out HB4.out)
                clear hbf
                go_wp2
                go_roundw
                case rel => exact ⟨i3 + 1, by go_num, HNEXT.out⟩
                case measure => simp [intOf]; omega
            · obtain rfl : F = i3 := by omega
              go_wp2_with fail
              refine (list_any _ hb16 _ HT3.out).mono ?_
              rintro e w4 ⟨v, rfl, hown4, hb4⟩
              have HROW4 := Lib.hid (row_own hown4)
              have HB4 : Hid (Below w.heap.size w w4) := Lib.hid (HB3.out.trans (hb4.mono HB3.out.size))
              clear hown4 hb4
              go_wp2
              go_ret2
              exact ⟨_, rfl, HROW4.out, HB4.out⟩
end

end Go.Proofs.YtnagdebioaekoaaDoor.ChooseProbe
