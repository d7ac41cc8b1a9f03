/- The walk of the statement: it returns true, and nothing that was there has turned. -/
import Derived.Test.YtnagdebioaekoaaDoorToy
import Derived.Deep.RegionHeld3
namespace Go.Proofs.YtnagdebioaekoaaDoor.ChooseLaw
open Go.RowKit Go.Proofs.YtnagdebioaekoaaDoor.ChooseMath Go.Proofs.YtnagdebioaekoaaDoor.ChooseBits Go.Proofs.YtnagdebioaekoaaDoor.ChooseList Go.Proofs.YtnagdebioaekoaaDoor.ChooseRef Go.Proofs.YtnagdebioaekoaaDoor.ChooseInk Go.Proofs.YtnagdebioaekoaaDoor.ChooseEnough Go.Proofs.YtnagdebioaekoaaDoor.ChooseBoth Go.Proofs.YtnagdebioaekoaaDoorW.PrintWords
set_option linter.unusedVariables false

/-- At a step of a region that draws its order: an append to a row of the call's own. -/
theorem step_append_own {P : Program} {w : World} {ops : Array Oper} {o : Oper} {a : Act} {K : Act → World → Prop} {Q : Exit → Act → World → Prop} {E : Prop} (hgd : o.guard = none) (s x : Operand) (t : TypeId)
    (ho : o.op = .call { callee := .builtin .append, args := #[s, x], argTypes := #[t, t] })
    (base : Nat) (e : TypeId) (i : TypeInfo) (z : Value) (size bytes : Nat) (ht : P.underlying t = some (.slice e)) (hi : P.info? e = some i) (hz : i.zero = some z)
    (hsize : i.size = size) (hby : i.bytes = bytes) (hzs : z.cells.size = size) (hsz : 0 < size)
    (v : Value) (n : Nat) (xs : List Value) (hs : a.eval s = v) (hown : w.ownsRow base e size v n xs)
    (ad : Addr) (m c : Nat) (news : List Value) (hx : a.eval x = .slice (some ad) m c) (hl : news.length = m * size) (hnews : ∀ j u, news[j]? = some u → w.cell? (ad.add j) = some u) (h1 : ∀ u ∈ news, u.oneCell' = true)
    (h63 : n + m ≤ maxLen) (hbytes : (n + m) * bytes ≤ 140737488355328) (hbase : base ≤ w.heap.size)
    (h : ∀ v' w', w'.ownsRow base e size v' (n + m) (xs ++ news) → w.grownBy w' v.ownBlock → K (a.put o.dst v') w') :
    if Region.wanted o (yielded ops a.tmps) = true then Oper.wp P o a w K Q else E := by
  have hw : Region.wanted o (yielded ops a.tmps) = true := by simp [Region.wanted, hgd]
  rw [if_pos hw]
  exact wp_append_own w s x t ho base e i z size bytes ht hi hz hsize hby hzs hsz v n xs hs hown ad m c news hx hl hnews h1 h63 hbytes hbase fun v' w' h2 h3 _ => h v' w' h2 h3

theorem t10_on {w w1 : World} (h : T10 w.heap.size w) (hb : Below w.heap.size w w1) : T10 w1.heap.size w1 := Lib.tabBelow_of_tabIs (h.on hb).here

theorem C_drewN {w : World} {A : Option Addr} {k : Nat} {l : List Int} (h : Kd.C (Kd.int .i64) w A k l) (q : Nat) : Kd.C (Kd.int .i64) (w.drewN q) A k l := Kd.C_below h ((Drawn0.refl w).step q).below
theorem take_cells {w : World} {ad : Addr} {l : List Nat} (h : Kd.C (Kd.int .i64) w (some ad) l.length (ints l)) (i : Nat) (j : Nat) (u : Value) (hj : ((vals l).take i)[j]? = some u) : w.cell? (ad.add j) = some u := by
  refine row_cells h j u ?_
  rw [List.getElem?_take] at hj
  split at hj
  · exact hj
  · cases hj
theorem drop_cells {w : World} {ad : Addr} {l : List Nat} (h : Kd.C (Kd.int .i64) w (some ad) l.length (ints l)) (i : Nat) (j : Nat) (u : Value) (hj : ((vals l).drop (i + 1))[j]? = some u) : w.cell? ((⟨ad.block, ad.off + (i + 1), none⟩ : Addr).add j) = some u := by
  rw [List.getElem?_drop] at hj
  have := row_cells h (i + 1 + j) u hj
  have e : (⟨ad.block, ad.off + (i + 1), none⟩ : Addr).add j = ad.add (i + 1 + j) := by
    unfold Addr.add
    rw [if_neg (show ¬ i + 1 + j = 0 by omega)]
    split
    · subst_vars; simp
    · simp; omega
  rw [e]
  exact this
theorem erase_row {w : World} {base i : Nat} {v : Value} {l : List Nat} (hi : i < l.length) {k : Nat} (hk : k = l.length - 1) {xs : List Value} (hxs : xs = (vals l).take i ++ (vals l).drop (i + 1)) (h : w.ownsRow base 3 1 v k xs) : Row w v (l.eraseIdx i) := by
  refine row_own (base := base) ?_
  rw [List.length_eraseIdx_of_lt hi, ← hk]
  have e : vals (l.eraseIdx i) = xs := by
    rw [hxs, List.eraseIdx_eq_take_drop_succ]
    unfold vals ints
    simp [List.map_take, List.map_drop]
  rw [e]
  exact h
theorem mem_erase_lt {l : List Nat} {n i : Nat} (h : ∀ a ∈ l, a < n) : ∀ a ∈ l.eraseIdx i, a < n := fun a ha => h a (List.mem_of_mem_eraseIdx ha)

section
variable {m : List (List Bool)} {A : Option Addr} {cm : Nat}

set_option maxHeartbeats 2000000 in
/-- Where Choose has an error. -/
theorem law_err (w : World) (hC : Kd.C (Kd.slice 4 Kd.bool) w A m.length m) (hcm : m.length ≤ cm) (hlen : m.length ≤ 5864062014634) (hT : TabAt 1 Lib.deBruijn64tab w) (hU : T10 w.heap.size w) (hno : (answer m).2 ≠ 0) :
    Calls Tryd.prog 3 #[.slice A m.length cm] w fun e w' => e = .returned (.bool true) ∧ Below w.heap.size w w' := by
  have hsm := answer_small m
  have her := answer_err m
  have HC := Lib.hid hC
  have HT := Lib.hid hT
  have HU := Lib.hid hU
  have HPR := Lib.hid (probe_any (cm := cm) w hC hlen hT)
  generalize hl : (answer m).1 = l at *
  generalize he : (answer m).2 = no at *
  have hne : (no != 0) = true := by rw [bne_iff_ne]; exact hno
  have HSM := Lib.hid hsm
  have HAL := Lib.hid hl
  have HAE := Lib.hid he
  have h0 : 0 ≤ no := by omega
  have h1 : no < 1000 := by omega
  clear hC hT hU hl he hsm her hno
  go_enter Tryd.func3, Tryd.ntmps3
  go_wp2_with fail
  refine (HPR.out).mono ?_
  rintro e w1 ⟨v1, rfl, hrow1, hb1⟩
  have HB1 := Lib.hid hb1
  obtain ⟨A1, c1, rfl, hc1, hC1, _⟩ := hrow1
  have HC1 := Lib.hid hC1
  clear hC1 hb1 hc1
  go_wp2_with fail
  refine (told_any A1 c1 l no h0 h1 (by have := HSM.out.1; omega) (fun a ha => by have := HSM.out.2 a ha; omega) _ HC1.out (t10_on HU.out HB1.out)).mono ?_
  rintro e w2 ⟨rfl, hb2⟩
  have HB2 := Lib.hid (HB1.out.trans (hb2.mono HB1.out.size))
  clear hb2
  go_wp2_with fail
  refine (ref_any (cm := cm) _ (Kd.C_below HC.out HB2.out) hcm hlen).mono ?_
  rintro e w3 ⟨v3, rfl, hrow3, hb3⟩
  rw [HAL.out] at hrow3
  rw [HAE.out]
  have HB3 := Lib.hid (HB2.out.trans (hb3.mono HB2.out.size))
  obtain ⟨A3, c3, rfl, hc3, hC3, _⟩ := hrow3
  have HC3 := Lib.hid hC3
  clear hC3 hb3 hc3
  go_wp2_with fail
  refine (told_any A3 c3 l no h0 h1 (by have := HSM.out.1; omega) (fun a ha => by have := HSM.out.2 a ha; omega) _ HC3.out (t10_on HU.out HB3.out)).mono ?_
  rintro e w4 ⟨rfl, hb4⟩
  have HB4 := Lib.hid (HB3.out.trans (hb4.mono HB3.out.size))
  clear hb4
  generalize text l no = tx
  go_wp2_with fail
  refine (chooses_any _ (tab_below HT.out HB4.out)).mono ?_
  rintro e w5 ⟨rfl, hb5⟩
  have HB5 := Lib.hid (HB4.out.trans (hb5.mono HB4.out.size))
  clear hb5
  go_wp2
  go_ret
  exact ⟨rfl, HB5.out⟩

set_option maxHeartbeats 4000000 in
/-- Where Choose has none. -/
theorem law_ok (w : World) (hC : Kd.C (Kd.slice 4 Kd.bool) w A m.length m) (hcm : m.length ≤ cm) (hlen : m.length ≤ 5864062014634) (hT : TabAt 1 Lib.deBruijn64tab w) (hU : T10 w.heap.size w) (hno : (answer m).2 = 0) :
    Calls Tryd.prog 3 #[.slice A m.length cm] w fun e w' => e = .returned (.bool true) ∧ Below w.heap.size w w' := by
  have hsm := answer_small m
  have HC := Lib.hid hC
  have HT := Lib.hid hT
  have HU := Lib.hid hU
  have HPR := Lib.hid (probe_any (cm := cm) w hC hlen hT)
  have HEN := Lib.hid (answer_enough hno)
  have HLE := Lib.hid (answer_least hno)
  obtain ⟨n, hn, hm2, hr, hbits⟩ := answer_ok hno
  have hlt : ∀ a ∈ (answer m).1, a < n := fun a ha => by
    rw [hbits] at ha
    exact ((bitsOf_asc hn (bestTo_lt m n _ (Nat.le_refl _))).lt a ha).2
  have HLT := Lib.hid hlt
  have HR := Lib.hid hr
  have HNO := Lib.hid hno
  clear hbits hlt hr
  have HAN : Hid ((answer m).1 = (answer m).1) := Lib.hid rfl
  generalize hl : (answer m).1 = l at *
  rw [hno] at HPR
  have HSM := Lib.hid hsm
  have HAL := Lib.hid hl
  have hl16 := hsm.1
  clear hC hT hU hl hsm hno HAN
  obtain ⟨i0, hi, hz0, hz1, hz2⟩ := info_parts info3
  have HI := Lib.hid hi
  have HZ0 := Lib.hid hz0
  have HZ1 := Lib.hid hz1
  have HZ2 := Lib.hid hz2
  clear hi hz0 hz1 hz2
  go_enter Tryd.func3, Tryd.ntmps3
  go_wp2_with fail
  refine (HPR.out).mono ?_
  rintro e w1 ⟨v1, rfl, hrow1, hb1⟩
  have HB1 := Lib.hid hb1
  obtain ⟨A1, c1, rfl, hc1, hC1, _⟩ := hrow1
  have HC1 := Lib.hid hC1
  clear hC1 hb1
  go_wp2_with fail
  refine (told_any A1 c1 l 0 (by omega) (by omega) (by have := HSM.out.1; omega) (fun a ha => by have := HSM.out.2 a ha; omega) _ HC1.out (t10_on HU.out HB1.out)).mono ?_
  rintro e w2 ⟨rfl, hb2⟩
  have HB12 := Lib.hid hb2
  have HB2 := Lib.hid (HB1.out.trans (hb2.mono HB1.out.size))
  clear hb2
  go_wp2_with fail
  refine (ref_any (cm := cm) _ (Kd.C_below HC.out HB2.out) hcm hlen).mono ?_
  rintro e w3 ⟨v3, rfl, hrow3, hb3⟩
  rw [HAL.out] at hrow3
  rw [HNO.out]
  have HB13 := Lib.hid (HB12.out.trans (hb3.mono HB12.out.size))
  have HB3 := Lib.hid (HB2.out.trans (hb3.mono HB2.out.size))
  obtain ⟨A3, c3, rfl, hc3, hC3, _⟩ := hrow3
  have HC3 := Lib.hid hC3
  clear hC3 hb3 hc3
  go_wp2_with fail
  refine (told_any A3 c3 l 0 (by omega) (by omega) (by have := HSM.out.1; omega) (fun a ha => by have := HSM.out.2 a ha; omega) _ HC3.out (t10_on HU.out HB3.out)).mono ?_
  rintro e w4 ⟨rfl, hb4⟩
  have HB14 := Lib.hid (HB13.out.trans (hb4.mono HB13.out.size))
  have HB4 := Lib.hid (HB3.out.trans (hb4.mono HB3.out.size))
  clear hb4
  generalize text l 0 = tx
  go_wp2_with fail
  refine (enough_any A cm m A1 c1 l n _ (Kd.C_below HC.out HB4.out) hcm (Kd.C_below HC1.out HB14.out) hc1 (by omega) (by omega) (by omega) HLT.out HR.out).mono ?_
  rintro e w5 ⟨rfl, hd5⟩
  rw [HEN.out]
  have HB15 := Lib.hid (HB14.out.trans (hd5.below.mono HB14.out.size))
  have HB5 := Lib.hid (HB4.out.trans (hd5.below.mono HB4.out.size))
  clear hd5
  go_wp2
  go_loopw [5] (fun x wr => ∃ i : Nat, x = .int .i64 (i : Int) ∧ i ≤ l.length ∧ Below w.heap.size w wr ∧ Below w1.heap.size w1 wr) (fun x _ => l.length - (intOf x).toNat)
  case atStart => exact ⟨0, rfl, Nat.zero_le _, HB5.out, HB15.out⟩
  case round =>
    obtain ⟨i, rfl, hil, hbr, hb1r⟩ := hrel
    have HBR := Lib.hid hbr
    have HB1R := Lib.hid hb1r
    clear hbr hb1r
    by_cases hlt : i < l.length
    · have HOUT := Lib.hid (HLE.out i hlt)
      obtain ⟨ad, rfl, _⟩ := Kd.at_int HC1.out (i : Int) (by omega) (by omega)
      have hown0 : wr.ownsRow wr.heap.size 3 1 (.slice none 0 0) 0 [] := ⟨rfl, .inl ⟨rfl, rfl⟩⟩
      have HO0 := Lib.hid hown0
      clear hown0
      have p1 : (0 : Int) ≤ (i : Int) := by omega
      have p2 : (i : Int) < (l.length : Int) := by omega
      have p3 : (i : Int) ≤ (c1 : Int) := by omega
      have p4 : (i : Int) + 1 ≤ (l.length : Int) := by omega
      have p5 : (i : Int) + 1 ≤ (c1 : Int) := by omega
      have p6 : (l.length : Int) ≤ (c1 : Int) := by omega
      have p7 : (0 : Int) ≤ (i : Int) + 1 := by omega
      have p8 : IntKind.i64.wrap ((i : Int) + 1) = (i : Int) + 1 := IntWalk.i64_in _ (by omega)
      have hlen' := List.length_eraseIdx_of_lt hlt
      have hel : (l.eraseIdx i).length ≤ 16 := by omega
      have HLT2 := Lib.hid (mem_erase_lt (i := i) HLT.out)
      have hr1 : 0 + i ≤ maxLen := by unfold maxLen; omega
      have hr2 : (0 + i) * 8 ≤ 140737488355328 := by omega
      have hr3 : 0 + i + (l.length - (i + 1)) ≤ maxLen := by unfold maxLen; omega
      have hr4 : (0 + i + (l.length - (i + 1))) * 8 ≤ 140737488355328 := by omega
      have HL1 : Hid (((vals l).take i).length = i * 1) := Lib.hid (by rw [List.length_take, vals_len]; omega)
      have HL2 : Hid (((vals l).drop (i + 1)).length = (l.length - (i + 1)) * 1) := Lib.hid (by rw [List.length_drop, vals_len]; omega)
      have HV1 : Hid (∀ u ∈ (vals l).take i, u.oneCell' = true) := Lib.hid (fun u hu => vals_cells l u (List.mem_of_mem_take hu))
      have HV2 : Hid (∀ u ∈ (vals l).drop (i + 1), u.oneCell' = true) := Lib.hid (fun u hu => vals_cells l u (List.mem_of_mem_drop hu))
      have hCr := Kd.C_below HC1.out HB1R.out
      have HN1 := Lib.hid (take_cells hCr i)
      have HCR := Lib.hid hCr
      clear hlen' hCr
      by_cases hcap : c1 = i + 1
      · have hci : (c1 = i + 1) = True := eq_true hcap
        have HLI : Hid (l.length = i + 1) := Lib.hid (by omega)
        have HN2 : Hid (∀ w0 : World, Below wr.heap.size wr w0 → ∀ (j : Nat) (u : Value), ((vals l).drop (i + 1))[j]? = some u → w0.cell? (ad.add j) = some u) :=
          Lib.hid (fun w0 hg j u hj => by rw [List.getElem?_drop, List.getElem?_eq_none (by rw [vals_len, HLI.out]; omega)] at hj; cases hj)
        clear hcap
        go_wp2
        go_region_held3 (fun _ => True) (trivial) ((first
          | (refine step_append_own (by rfl) _ _ 23 (by rfl) wr.heap.size 3 i0 (.int .i64 0) 1 8 Tryd.underlying23 HI.out HZ0.out HZ1.out HZ2.out (by rfl) (by decide) (.slice none 0 0) 0 [] (by rfl) (by exact HO0.out) ad i c1 ((vals l).take i) (by rfl) HL1.out (by exact HN1.out) HV1.out hr1 hr2 (by simp) ?_; intro v0 w0 hown0 hg0; have HO1 := Lib.hid hown0; have HB0' : Hid (Below wr.heap.size wr w0) := Lib.hid (by exact (Below.refl _ _).drew.grown hg0 (Nat.le_refl _) (fun k hk => by simp [Value.ownBlock] at hk)); have hz0 := HB0'.out.size; clear hown0 hg0)
          | (go_at_call 8; refine (enough_any A cm m B2 d2 (l.eraseIdx i) n _ (Kd.C_below HC.out (HBR.out.trans (HB2'.out.mono HBR.out.size))) hcm HC2.out hd2 (by omega) (by omega) (by omega) HLT2.out HR.out).mono ?_; rintro e w' ⟨rfl, q, rfl⟩)
          | (refine step_append_own (by rfl) _ _ 23 (by rfl) wr.heap.size 3 i0 (.int .i64 0) 1 8 Tryd.underlying23 HI.out HZ0.out HZ1.out HZ2.out (by rfl) (by decide) v0 (0 + i) ([] ++ (vals l).take i) (by rfl) (by exact HO1.out) ad (l.length - (i + 1)) (c1 - (i + 1)) ((vals l).drop (i + 1)) (by rfl) HL2.out (by exact HN2.out w0 HB0'.out) HV2.out hr3 hr4 (by omega) ?_; intro v2 w2 hown2 hg2; have HR2 := Lib.hid (erase_row hlt (by omega) (by simp) hown2); have HB2' : Hid (Below wr.heap.size wr w2) := Lib.hid (by exact HB0'.out.grown hg2 (by omega) (own_base HO1.out)); clear hown2 hg2; obtain ⟨B2, d2, rfl, hd2, hC2, _⟩ := HR2.out; have HC2 := Lib.hid hC2; clear hC2)))
        rw [HOUT.out]
        have HB3' : Hid (Below wr.heap.size wr (w2.drewN q)) := Lib.hid (HB2'.out.trans (((Drawn0.refl w2).step q).below.mono HB2'.out.size))
        go_wp2
        go_roundw
        case rel => exact ⟨i + 1, by go_num, by omega, HBR.out.trans (HB3'.out.mono HBR.out.size), HB1R.out.trans (HB3'.out.mono HB1R.out.size)⟩
        case measure => simp [intOf]; omega
      · have hci : (c1 = i + 1) = False := eq_false hcap
        have HN2 : Hid (∀ w0 : World, Below wr.heap.size wr w0 → ∀ (j : Nat) (u : Value), ((vals l).drop (i + 1))[j]? = some u → w0.cell? ((⟨ad.block, ad.off + (i + 1), none⟩ : Addr).add j) = some u) :=
          Lib.hid (fun w0 hg => drop_cells (Kd.C_below HCR.out hg) i)
        clear hcap
        go_wp2
        go_region_held3 (fun _ => True) (trivial) ((first
          | (refine step_append_own (by rfl) _ _ 23 (by rfl) wr.heap.size 3 i0 (.int .i64 0) 1 8 Tryd.underlying23 HI.out HZ0.out HZ1.out HZ2.out (by rfl) (by decide) (.slice none 0 0) 0 [] (by rfl) (by exact HO0.out) ad i c1 ((vals l).take i) (by rfl) HL1.out (by exact HN1.out) HV1.out hr1 hr2 (by simp) ?_; intro v0 w0 hown0 hg0; have HO1 := Lib.hid hown0; have HB0' : Hid (Below wr.heap.size wr w0) := Lib.hid (by exact (Below.refl _ _).drew.grown hg0 (Nat.le_refl _) (fun k hk => by simp [Value.ownBlock] at hk)); have hz0 := HB0'.out.size; clear hown0 hg0)
          | (go_at_call 8; refine (enough_any A cm m B2 d2 (l.eraseIdx i) n _ (Kd.C_below HC.out (HBR.out.trans (HB2'.out.mono HBR.out.size))) hcm HC2.out hd2 (by omega) (by omega) (by omega) HLT2.out HR.out).mono ?_; rintro e w' ⟨rfl, q, rfl⟩)
          | (refine step_append_own (by rfl) _ _ 23 (by rfl) wr.heap.size 3 i0 (.int .i64 0) 1 8 Tryd.underlying23 HI.out HZ0.out HZ1.out HZ2.out (by rfl) (by decide) v0 (0 + i) ([] ++ (vals l).take i) (by rfl) (by exact HO1.out) ⟨ad.block, ad.off + (i + 1), none⟩ (l.length - (i + 1)) (c1 - (i + 1)) ((vals l).drop (i + 1)) (by rfl) HL2.out (by exact HN2.out w0 HB0'.out) HV2.out hr3 hr4 (by omega) ?_; intro v2 w2 hown2 hg2; have HR2 := Lib.hid (erase_row hlt (by omega) (by simp) hown2); have HB2' : Hid (Below wr.heap.size wr w2) := Lib.hid (by exact HB0'.out.grown hg2 (by omega) (own_base HO1.out)); clear hown2 hg2; obtain ⟨B2, d2, rfl, hd2, hC2, _⟩ := HR2.out; have HC2 := Lib.hid hC2; clear hC2)))
        rw [HOUT.out]
        have HB3' : Hid (Below wr.heap.size wr (w2.drewN q)) := Lib.hid (HB2'.out.trans (((Drawn0.refl w2).step q).below.mono HB2'.out.size))
        go_wp2
        go_roundw
        case rel => exact ⟨i + 1, by go_num, by omega, HBR.out.trans (HB3'.out.mono HBR.out.size), HB1R.out.trans (HB3'.out.mono HB1R.out.size)⟩
        case measure => simp [intOf]; omega
    · go_wp2_with fail
      refine (chooses_any _ (tab_below HT.out HBR.out)).mono ?_
      rintro e w6 ⟨rfl, hb6⟩
      have HB6 := Lib.hid (HBR.out.trans (hb6.mono HBR.out.size))
      clear hb6
      go_wp2
      go_ret
      exact ⟨rfl, HB6.out⟩
/-- The walk of the statement. -/
theorem law_any (w : World) (hC : Kd.C (Kd.slice 4 Kd.bool) w A m.length m) (hcm : m.length ≤ cm) (hlen : m.length ≤ 5864062014634) (hT : TabAt 1 Lib.deBruijn64tab w) (hU : T10 w.heap.size w) :
    Calls Tryd.prog 3 #[.slice A m.length cm] w fun e w' => e = .returned (.bool true) ∧ Below w.heap.size w w' := by
  by_cases h : (answer m).2 = 0
  · exact law_ok w hC hcm hlen hT hU h
  · exact law_err w hC hcm hlen hT hU h
end

end Go.Proofs.YtnagdebioaekoaaDoor.ChooseLaw
