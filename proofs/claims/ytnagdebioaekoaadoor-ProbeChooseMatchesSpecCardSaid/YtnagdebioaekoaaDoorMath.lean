/- Plain facts for the statement on Choose: sets of columns as numbers, their lists of bits, the order on lists (first by length, then number by number), and that both ways to choose give the least list. No program in it. -/
namespace Go.Proofs.YtnagdebioaekoaaDoor.ChooseMath

/-- The numbers of the bits of a set below 2^16. -/
def bitsOf (s : Nat) : List Nat := (List.range 16).filter s.testBit

def lexlt : List Nat → List Nat → Bool
  | _, [] => false
  | [], _ :: _ => true
  | a :: x, b :: y => decide (a < b) || (a == b && lexlt x y)

def shortlt (x y : List Nat) : Bool := decide (x.length < y.length) || (x.length == y.length && lexlt x y)

theorem lexlt_irrefl : ∀ x, lexlt x x = false
  | [] => rfl
  | a :: x => by simp [lexlt, lexlt_irrefl x]

theorem lexlt_trans : ∀ x y z, lexlt x y = true → lexlt y z = true → lexlt x z = true
  | _, [], _, h, _ => by cases ‹List Nat› <;> simp [lexlt] at h
  | _, _ :: _, [], _, h => by simp [lexlt] at h
  | [], _ :: _, _ :: _, _, _ => rfl
  | a :: x, b :: y, c :: z, h1, h2 => by
    simp only [lexlt, Bool.or_eq_true, decide_eq_true_eq, Bool.and_eq_true, beq_iff_eq] at *
    rcases h1 with h1 | ⟨rfl, h1⟩ <;> rcases h2 with h2 | ⟨rfl, h2⟩
    · left; omega
    · left; exact h1
    · left; exact h2
    · right; exact ⟨rfl, lexlt_trans x y z h1 h2⟩

theorem lexlt_total : ∀ x y : List Nat, x.length = y.length → lexlt x y = false → lexlt y x = false → x = y
  | [], [], _, _, _ => rfl
  | [], _ :: _, h, _, _ => by simp at h
  | _ :: _, [], h, _, _ => by simp at h
  | a :: x, b :: y, h, h1, h2 => by
    simp only [lexlt, Bool.or_eq_false_iff, decide_eq_false_iff_not, Bool.and_eq_false_iff, beq_eq_false_iff_ne] at h1 h2
    obtain ⟨h1a, h1b⟩ := h1
    obtain ⟨h2a, h2b⟩ := h2
    have e : a = b := by omega
    subst e
    have i1 : lexlt x y = false := by rcases h1b with h | h; exact absurd rfl h; exact h
    have i2 : lexlt y x = false := by rcases h2b with h | h; exact absurd rfl h; exact h
    rw [lexlt_total x y (by simpa using h) i1 i2]

theorem shortlt_irrefl (x : List Nat) : shortlt x x = false := by simp [shortlt, lexlt_irrefl]
theorem shortlt_trans (x y z : List Nat) (h1 : shortlt x y = true) (h2 : shortlt y z = true) : shortlt x z = true := by
  simp only [shortlt, Bool.or_eq_true, decide_eq_true_eq, Bool.and_eq_true, beq_iff_eq] at *
  rcases h1 with h1 | ⟨e1, h1⟩ <;> rcases h2 with h2 | ⟨e2, h2⟩
  · left; omega
  · left; omega
  · left; omega
  · right; exact ⟨by omega, lexlt_trans _ _ _ h1 h2⟩
theorem shortlt_total (x y : List Nat) (h1 : shortlt x y = false) (h2 : shortlt y x = false) : x = y := by
  simp only [shortlt, Bool.or_eq_false_iff, decide_eq_false_iff_not, Bool.and_eq_false_iff, beq_eq_false_iff_ne] at h1 h2
  have e : x.length = y.length := by omega
  have i1 : lexlt x y = false := by rcases h1.2 with h | h; exact absurd e h; exact h
  have i2 : lexlt y x = false := by rcases h2.2 with h | h; exact absurd e.symm h; exact h
  exact lexlt_total x y e i1 i2

/-- Ascending, all from c to below e. -/
def Asc : Nat → Nat → List Nat → Prop
  | _, _, [] => True
  | c, e, a :: x => c ≤ a ∧ a < e ∧ Asc (a + 1) e x

theorem Asc.mono : ∀ {c c' e : Nat} {x : List Nat}, c' ≤ c → Asc c e x → Asc c' e x
  | _, _, _, [], _, _ => trivial
  | _, _, _, _ :: _, h, ⟨h1, h2, h3⟩ => ⟨by omega, h2, h3⟩
theorem Asc.lt : ∀ {c e : Nat} {x : List Nat}, Asc c e x → ∀ a ∈ x, c ≤ a ∧ a < e
  | _, _, [], _, _, h => by simp at h
  | c, e, b :: x, ⟨h1, h2, h3⟩, a, h => by
    rcases List.mem_cons.1 h with rfl | h
    · exact ⟨h1, h2⟩
    · have := Asc.lt h3 a h
      exact ⟨by omega, this.2⟩
theorem Asc.length_le : ∀ {c e : Nat} {x : List Nat}, Asc c e x → x.length ≤ e - c
  | _, _, [], _ => by simp
  | c, e, b :: x, ⟨h1, h2, h3⟩ => by
    have := Asc.length_le h3
    simp only [List.length_cons]
    omega
theorem Asc.eraseIdx : ∀ {c e : Nat} {x : List Nat} (k : Nat), Asc c e x → Asc c e (x.eraseIdx k)
  | _, _, [], _, _ => trivial
  | _, _, _ :: _, 0, ⟨h1, _, h3⟩ => h3.mono (by omega)
  | _, _, _ :: _, k + 1, ⟨h1, h2, h3⟩ => ⟨h1, h2, h3.eraseIdx k⟩

/-! ### the reference's way -/
section
variable (P : List Nat → Bool)
def chosenL : Nat → Nat → Nat → List Nat → Option (List Nat)
  | 0, _, _, l => if P l = true then some l else none
  | _ + 1, 0, _, _ => none
  | m + 1, f + 1, c, l => match chosenL m f (c + 1) (l ++ [c]) with
    | some x => some x
    | none => chosenL (m + 1) f (c + 1) l

theorem chosenL_spec : ∀ (f m c : Nat) (l : List Nat),
    (∀ x, chosenL P m f c l = some x → ∃ y, x = l ++ y ∧ Asc c (c + f) y ∧ y.length = m ∧ P x = true ∧ ∀ z, Asc c (c + f) z → z.length = m → P (l ++ z) = true → lexlt z y = false) ∧
    (chosenL P m f c l = none → ∀ z, Asc c (c + f) z → z.length = m → P (l ++ z) = false)
  | f, 0, c, l => by
    refine ⟨fun x h => ?_, fun h z _ hz => ?_⟩
    · simp only [chosenL] at h
      split at h
      · injection h with h
        subst h
        exact ⟨[], by simp, trivial, rfl, by assumption, fun z _ hz _ => by simp [lexlt]⟩
      · cases h
    · simp only [chosenL] at h
      split at h
      · cases h
      · rename_i hp
        rw [List.eq_nil_of_length_eq_zero hz, List.append_nil]
        exact Bool.eq_false_iff.2 hp
  | 0, m + 1, c, l => by
    refine ⟨fun x h => by simp [chosenL] at h, fun _ z hz hl => ?_⟩
    have := hz.length_le
    omega
  | f + 1, m + 1, c, l => by
    obtain ⟨a1, a2⟩ := chosenL_spec f m (c + 1) (l ++ [c])
    obtain ⟨b1, b2⟩ := chosenL_spec f (m + 1) (c + 1) l
    have e : c + 1 + f = c + (f + 1) := by omega
    rw [e] at a1 a2 b1 b2
    refine ⟨fun x h => ?_, fun h z hz hl => ?_⟩
    · simp only [chosenL] at h
      split at h
      · rename_i x' hx
        injection h with h
        subst h
        obtain ⟨y, rfl, hy, hl, hp, hmin⟩ := a1 _ hx
        refine ⟨c :: y, by simp, ⟨Nat.le_refl _, by omega, hy⟩, by simp [hl], hp, fun z hz hzl hzp => ?_⟩
        cases z with
        | nil => simp at hzl
        | cons a z =>
          obtain ⟨h1, h2, h3⟩ := hz
          by_cases e : a = c
          · subst e
            simp only [lexlt, Nat.lt_irrefl, decide_false, Bool.false_or, BEq.rfl, Bool.true_and]
            exact hmin z h3 (by simpa using hzl) (by simpa using hzp)
          · simp only [lexlt, Bool.or_eq_false_iff, decide_eq_false_iff_not, Bool.and_eq_false_iff, beq_eq_false_iff_ne]
            exact ⟨by omega, .inl e⟩
      · rename_i hx
        obtain ⟨y, rfl, hy, hl, hp, hmin⟩ := b1 _ h
        refine ⟨y, rfl, hy.mono (by omega), hl, hp, fun z hz hzl hzp => ?_⟩
        cases z with
        | nil => simp at hzl
        | cons a z =>
          obtain ⟨h1, h2, h3⟩ := hz
          by_cases e : a = c
          · subst e
            have := a2 hx z h3 (by simpa using hzl)
            rw [List.append_assoc] at this
            rw [show l ++ a :: z = l ++ ([a] ++ z) from rfl, this] at hzp
            cases hzp
          · exact hmin (a :: z) ⟨by omega, h2, h3⟩ hzl hzp
    · simp only [chosenL] at h
      split at h
      · cases h
      · rename_i hx
        cases z with
        | nil => simp at hl
        | cons a z =>
          obtain ⟨h1, h2, h3⟩ := hz
          by_cases e : a = c
          · subst e
            have := a2 hx z h3 (by simpa using hl)
            rwa [List.append_assoc] at this
          · exact b2 h (a :: z) ⟨by omega, h2, h3⟩ hl

/-- The first that some number of columns gives, from 'many' on. -/
def refFrom (n : Nat) : Nat → Nat → List Nat
  | 0, _ => []
  | f + 1, many => match chosenL P many n 0 [] with
    | some x => x
    | none => refFrom n f (many + 1)

def Least (n : Nat) (x : List Nat) : Prop := Asc 0 n x ∧ P x = true ∧ ∀ z, Asc 0 n z → P z = true → shortlt z x = false

theorem refFrom_least (n : Nat) (w : List Nat) (hw : Asc 0 n w) (hp : P w = true) : ∀ (f many : Nat), many + f = n + 1 → (∀ z, Asc 0 n z → P z = true → many ≤ z.length) → Least P n (refFrom P n f many)
  | 0, many, h, hm => by
    have h1 := hm w hw hp
    have := hw.length_le
    omega
  | f + 1, many, h, hm => by
    obtain ⟨a1, a2⟩ := chosenL_spec P n many 0 []
    simp only [Nat.zero_add, List.nil_append] at a1 a2
    unfold refFrom
    cases hx : chosenL P many n 0 [] with
    | some x =>
      obtain ⟨y, rfl, hy, hl, hpx, hmin⟩ := a1 _ hx
      refine ⟨hy, hpx, fun z hz hzp => ?_⟩
      have h2 := hm z hz hzp
      simp only [shortlt, Bool.or_eq_false_iff, decide_eq_false_iff_not, Bool.and_eq_false_iff, beq_eq_false_iff_ne]
      refine ⟨by omega, ?_⟩
      rcases Nat.eq_or_lt_of_le h2 with e | e
      · right; exact hmin z hz e.symm hzp
      · left; omega
    | none =>
      refine refFrom_least n w hw hp f (many + 1) (by omega) (fun z hz hzp => ?_)
      have h2 := hm z hz hzp
      by_cases e : z.length = many
      · have := a2 hx z hz e
        rw [this] at hzp; cases hzp
      · omega

theorem Least.unique {n : Nat} {x y : List Nat} (hx : Least P n x) (hy : Least P n y) : x = y :=
  shortlt_total x y (hy.2.2 x hx.1 hx.2.1) (hx.2.2 y hy.1 hy.2.1)
end

/-! ### sets as numbers -/
def maskTo (row : List Bool) : Nat → Nat
  | 0 => 0
  | k + 1 => if row.getD k false = true then maskTo row k ||| 2 ^ k else maskTo row k

theorem maskTo_testBit (row : List Bool) : ∀ k j, (maskTo row k).testBit j = (decide (j < k) && row.getD j false)
  | 0, j => by simp [maskTo]
  | k + 1, j => by
    unfold maskTo
    split
    · rename_i h
      rw [Nat.testBit_or, maskTo_testBit row k j, Nat.testBit_two_pow]
      by_cases e : k = j
      · subst e; rw [h]; simp
      · have : (decide (j < k + 1)) = decide (j < k) := by simp; omega
        rw [this]; simp [e]
    · rename_i h
      rw [maskTo_testBit row k j]
      by_cases e : k = j
      · subst e; simp at h; simp [h]
      · have : (decide (j < k + 1)) = decide (j < k) := by simp; omega
        rw [this]
theorem maskTo_lt (row : List Bool) (k : Nat) : maskTo row k < 2 ^ k := by
  refine Nat.lt_pow_two_of_testBit _ fun i hi => ?_
  rw [maskTo_testBit]
  simp; omega

/-- The set of a list of columns. -/
def setOf : List Nat → Nat
  | [] => 0
  | a :: x => 2 ^ a ||| setOf x
theorem setOf_testBit : ∀ (x : List Nat) j, (setOf x).testBit j = decide (j ∈ x)
  | [], j => by simp [setOf]
  | a :: x, j => by
    rw [setOf, Nat.testBit_or, setOf_testBit x j, Nat.testBit_two_pow]
    by_cases e : a = j
    · subst e; simp
    · have : ¬ j = a := fun h => e h.symm
      simp [e, this]
theorem setOf_lt {n : Nat} {x : List Nat} (h : Asc 0 n x) : setOf x < 2 ^ n := by
  refine Nat.lt_pow_two_of_testBit _ fun i hi => ?_
  rw [setOf_testBit]
  simp only [decide_eq_false_iff_not]
  intro hm
  have := h.lt i hm
  omega

theorem mem_bitsOf {s : Nat} (hs : s < 2 ^ 16) (a : Nat) : a ∈ bitsOf s ↔ s.testBit a = true := by
  unfold bitsOf
  simp only [List.mem_filter, List.mem_range]
  constructor
  · exact fun h => h.2
  · intro h
    refine ⟨?_, h⟩
    rcases Nat.lt_or_ge a 16 with h1 | h1
    · exact h1
    · rw [Nat.testBit_lt_two_pow (Nat.lt_of_lt_of_le hs (Nat.pow_le_pow_right (by omega) h1))] at h
      cases h

theorem asc_filter_range (p : Nat → Bool) : ∀ (k c : Nat), Asc c (c + k) ((List.range' c k).filter p)
  | 0, _ => trivial
  | k + 1, c => by
    rw [List.range'_succ, List.filter_cons]
    have h := asc_filter_range p k (c + 1)
    rw [show c + 1 + k = c + (k + 1) by omega] at h
    split
    · exact ⟨Nat.le_refl _, by omega, h⟩
    · exact h.mono (by omega)
theorem asc_weaken : ∀ {c e n : Nat} {x : List Nat}, Asc c e x → (∀ a ∈ x, a < n) → Asc c n x
  | _, _, _, [], _, _ => trivial
  | _, _, _, a :: _, ⟨h1, _, h3⟩, h => ⟨h1, h a List.mem_cons_self, asc_weaken h3 fun b hb => h b (List.mem_cons_of_mem _ hb)⟩
theorem bitsOf_asc {n s : Nat} (hn : n ≤ 16) (hs : s < 2 ^ n) : Asc 0 n (bitsOf s) := by
  have h0 : s < 2 ^ 16 := Nat.lt_of_lt_of_le hs (Nat.pow_le_pow_right (by omega) hn)
  have h := asc_filter_range s.testBit 16 0
  rw [← List.range_eq_range'] at h
  refine asc_weaken h fun a ha => ?_
  have h1 := (mem_bitsOf h0 a).1 ha
  rcases Nat.lt_or_ge a n with h2 | h2
  · exact h2
  · rw [Nat.testBit_lt_two_pow (Nat.lt_of_lt_of_le hs (Nat.pow_le_pow_right (by omega) h2))] at h1
    cases h1

theorem asc_ext : ∀ {c e : Nat} {x y : List Nat}, Asc c e x → Asc c e y → (∀ a, a ∈ x ↔ a ∈ y) → x = y
  | _, _, [], [], _, _, _ => rfl
  | _, _, [], b :: y, _, _, h => by have := (h b).2 List.mem_cons_self; simp at this
  | _, _, a :: x, [], _, _, h => by have := (h a).1 List.mem_cons_self; simp at this
  | c, e, a :: x, b :: y, ⟨h1, h2, h3⟩, ⟨g1, g2, g3⟩, h => by
    have hab : a = b := by
      have m1 := (h a).1 List.mem_cons_self
      have m2 := (h b).2 List.mem_cons_self
      rcases List.mem_cons.1 m1 with e | m1
      · exact e
      · rcases List.mem_cons.1 m2 with e | m2
        · exact e.symm
        · have := g3.lt a m1
          have := h3.lt b m2
          omega
    subst hab
    rw [asc_ext h3 g3 fun z => ?_]
    constructor
    · intro hz
      have hlt := h3.lt z hz
      rcases List.mem_cons.1 ((h z).1 (List.mem_cons_of_mem _ hz)) with e | h'
      · omega
      · exact h'
    · intro hz
      have hlt := g3.lt z hz
      rcases List.mem_cons.1 ((h z).2 (List.mem_cons_of_mem _ hz)) with e | h'
      · omega
      · exact h'

theorem bitsOf_setOf {n : Nat} {x : List Nat} (hn : n ≤ 16) (h : Asc 0 n x) : bitsOf (setOf x) = x := by
  have hs := setOf_lt h
  have h0 : setOf x < 2 ^ 16 := Nat.lt_of_lt_of_le hs (Nat.pow_le_pow_right (by omega) hn)
  refine asc_ext (bitsOf_asc hn hs) h fun a => ?_
  rw [mem_bitsOf h0, setOf_testBit]
  simp

/-! ### the program's way -/
def Rect (m : List (List Bool)) (n : Nat) : Prop := ∀ row ∈ m, row.length = n
def enoughB (m : List (List Bool)) (l : List Nat) : Bool := m.all fun row => !(row.any id) || l.any fun c => row.getD c false
def covN (m : List (List Bool)) (n s : Nat) : Bool := m.all fun row => maskTo row n == 0 || maskTo row n &&& s != 0
def beforeN (a b : Nat) : Bool := shortlt (bitsOf a) (bitsOf b)
def bestTo (m : List (List Bool)) (n : Nat) : Nat → Nat
  | 0 => 2 ^ n - 1
  | i + 1 => if (beforeN i (bestTo m n i) && covN m n i) = true then i else bestTo m n i

theorem all_congr_mem {α : Type} {p q : α → Bool} : ∀ {l : List α}, (∀ a ∈ l, p a = q a) → l.all p = l.all q
  | [], _ => rfl
  | a :: l, h => by
    rw [List.all_cons, List.all_cons, h a List.mem_cons_self, all_congr_mem fun b hb => h b (List.mem_cons_of_mem _ hb)]

theorem any_row {row : List Bool} {n : Nat} (hr : row.length = n) : (row.any id = false) ↔ maskTo row n = 0 := by
  constructor
  · intro h
    refine Nat.eq_of_testBit_eq fun i => ?_
    rw [maskTo_testBit, Nat.zero_testBit]
    by_cases hi : i < n
    · have hm : row[i]'(by omega) ∈ row := List.getElem_mem _
      have := List.any_eq_false.1 h _ hm
      simp [hi, List.getD_eq_getElem?_getD, hr]
      simpa using this
    · simp [hi]
  · intro h
    rw [List.any_eq_false]
    intro b hb
    obtain ⟨i, hi, rfl⟩ := List.mem_iff_getElem.1 hb
    have := maskTo_testBit row n i
    rw [h, Nat.zero_testBit] at this
    simp [show i < n by omega, List.getElem?_eq_getElem hi] at this
    simp [this]

theorem cov_enough {m : List (List Bool)} {n s : Nat} (hn : n ≤ 16) (hr : Rect m n) (hs : s < 2 ^ n) : covN m n s = enoughB m (bitsOf s) := by
  have h0 : s < 2 ^ 16 := Nat.lt_of_lt_of_le hs (Nat.pow_le_pow_right (by omega) hn)
  refine all_congr_mem fun row hrow => ?_
  have hl := hr row hrow
  have e1 : (maskTo row n == 0) = !(row.any id) := by
    have := any_row hl
    cases hb : row.any id
    · simpa using this.1 hb
    · have h2 : ¬ maskTo row n = 0 := fun h => by rw [this.2 h] at hb; cases hb
      simpa using h2
  have e2 : (maskTo row n &&& s != 0) = (bitsOf s).any fun c => row.getD c false := by
    cases hb : (bitsOf s).any fun c => row.getD c false
    · have : maskTo row n &&& s = 0 := by
        refine Nat.eq_of_testBit_eq fun i => ?_
        rw [Nat.testBit_and, maskTo_testBit, Nat.zero_testBit]
        cases hsi : s.testBit i
        · simp
        · have h1 := List.any_eq_false.1 hb i ((mem_bitsOf h0 i).2 hsi)
          have h2 : row.getD i false = false := by simpa using h1
          rw [h2]; simp
      rw [this]; rfl
    · obtain ⟨c, hc, hrc⟩ := List.any_eq_true.1 hb
      have hsc := (mem_bitsOf h0 c).1 hc
      have hcn := ((bitsOf_asc hn hs).lt c hc).2
      have : (maskTo row n &&& s).testBit c = true := by
        rw [Nat.testBit_and, maskTo_testBit, hsc, hrc]; simp [hcn]
      rw [bne_iff_ne]
      intro h
      rw [h, Nat.zero_testBit] at this
      cases this
  rw [e1, e2]

theorem bestTo_lt (m : List (List Bool)) (n : Nat) : ∀ i, i ≤ 2 ^ n - 1 → bestTo m n i < 2 ^ n
  | 0, _ => by have := Nat.two_pow_pos n; unfold bestTo; omega
  | i + 1, h => by
    unfold bestTo
    split
    · have := Nat.two_pow_pos n; omega
    · exact bestTo_lt m n i (by omega)

theorem testBit_full (n j : Nat) : (2 ^ n - 1).testBit j = decide (j < n) := by
  simp [Nat.testBit_two_pow_sub_one]

theorem cov_full {m : List (List Bool)} {n : Nat} : covN m n (2 ^ n - 1) = true := by
  rw [covN, List.all_eq_true]
  intro row _
  rw [Bool.or_eq_true]
  by_cases h : maskTo row n = 0
  · left; simpa using h
  · right
    rw [bne_iff_ne]
    intro h2
    refine h (Nat.eq_of_testBit_eq fun i => ?_)
    have := congrArg (·.testBit i) h2
    simp only [Nat.testBit_and, testBit_full, Nat.zero_testBit] at this
    rw [Nat.zero_testBit, maskTo_testBit] at *
    cases h3 : row.getD i false <;> simp_all

theorem bestTo_cov (m : List (List Bool)) (n : Nat) : ∀ i, covN m n (bestTo m n i) = true
  | 0 => cov_full
  | i + 1 => by
    unfold bestTo
    split
    · rename_i h
      exact (Bool.and_eq_true_iff.1 h).2
    · exact bestTo_cov m n i

theorem bestTo_min (m : List (List Bool)) (n : Nat) : ∀ i s, (s < i ∨ s = 2 ^ n - 1) → covN m n s = true → beforeN s (bestTo m n i) = false
  | 0, s, h, _ => by
    have : s = 2 ^ n - 1 := by omega
    subst this
    exact shortlt_irrefl _
  | i + 1, s, h, hc => by
    unfold bestTo
    split
    · rename_i hb
      obtain ⟨hb1, hb2⟩ := Bool.and_eq_true_iff.1 hb
      by_cases e : s = i
      · subst e; exact shortlt_irrefl _
      · have h1 := bestTo_min m n i s (by omega) hc
        cases h2 : beforeN s i
        · rfl
        · have := shortlt_trans _ _ _ h2 hb1
          unfold beforeN at h1
          rw [h1] at this; cases this
    · rename_i hb
      by_cases e : s = i
      · subst e
        cases h2 : beforeN s (bestTo m n s)
        · rfl
        · exact absurd (by rw [h2, hc]; rfl) hb
      · exact bestTo_min m n i s (by omega) hc

/-- What the program chooses is the least list. -/
theorem best_least {m : List (List Bool)} {n : Nat} (hn : n ≤ 16) (hr : Rect m n) : Least (enoughB m) n (bitsOf (bestTo m n (2 ^ n - 1))) := by
  have hlt := bestTo_lt m n (2 ^ n - 1) (Nat.le_refl _)
  refine ⟨bitsOf_asc hn hlt, by rw [← cov_enough hn hr hlt]; exact bestTo_cov m n _, fun z hz hp => ?_⟩
  have hs := setOf_lt hz
  have e := bitsOf_setOf hn hz
  have hc : covN m n (setOf z) = true := by rw [cov_enough hn hr hs, e]; exact hp
  have := bestTo_min m n (2 ^ n - 1) (setOf z) (by omega) hc
  unfold beforeN at this
  rwa [e] at this

def refChoose (m : List (List Bool)) (n : Nat) : List Nat := refFrom (enoughB m) n (n + 1) 0

theorem full_asc {n : Nat} (hn : n ≤ 16) : Asc 0 n (bitsOf (2 ^ n - 1)) := bitsOf_asc hn (by have := Nat.two_pow_pos n; omega)

theorem choose_same {m : List (List Bool)} {n : Nat} (hn : n ≤ 16) (hr : Rect m n) : bitsOf (bestTo m n (2 ^ n - 1)) = refChoose m n := by
  have hf : 2 ^ n - 1 < 2 ^ n := by have := Nat.two_pow_pos n; omega
  refine (best_least hn hr).unique _ (refFrom_least _ n _ (full_asc hn) ?_ (n + 1) 0 (by omega) (fun _ _ _ => Nat.zero_le _))
  rw [← cov_enough hn hr hf]
  exact cov_full

/-- None of the chosen columns can be left out. -/
theorem best_none_out {m : List (List Bool)} {n : Nat} (hn : n ≤ 16) (hr : Rect m n) (k : Nat) (hk : k < (bitsOf (bestTo m n (2 ^ n - 1))).length) :
    enoughB m ((bitsOf (bestTo m n (2 ^ n - 1))).eraseIdx k) = false := by
  obtain ⟨h1, _, h3⟩ := best_least hn hr
  cases hp : enoughB m ((bitsOf (bestTo m n (2 ^ n - 1))).eraseIdx k)
  · rfl
  · have := h3 _ (h1.eraseIdx k) hp
    simp only [shortlt, Bool.or_eq_false_iff, decide_eq_false_iff_not] at this
    rw [List.length_eraseIdx_of_lt hk] at this
    omega

end Go.Proofs.YtnagdebioaekoaaDoor.ChooseMath
