/- What the printed counting of bits, the stepping through the bits, and the printed comparing of lists come to, for sets below 2^16 and lists of small numbers. -/
import Derived.Test.YtnagdebioaekoaaDoorPProbeChooseMatchesSpecx0
import Derived.Test.YtnagdebioaekoaaDoorMath
import Derived.Shelf.Spec.TrailingZeros
namespace Go.Proofs.YtnagdebioaekoaaDoor.ChooseBits
open Go.RowKit Go.Proofs.YtnagdebioaekoaaDoor.ChooseMath Go.Proofs.YtnagdebioaekoaaDoor.PProbeChooseMatchesSpec Go.Proofs.YtnagdebioaekoaaDoorW.PrintWords

def ints (l : List Nat) : List Int := l.map Int.ofNat

/-! ### counting -/
def C1 : Nat := 6148914691236517205
def C2 : Nat := 3689348814741910323
def C3 : Nat := 1085102592571150095
def sw1 (x : Nat) : Nat := (x / 2 &&& C1) + (x &&& C1)
def sw2 (y : Nat) : Nat := (y / 4 &&& C2) + (y &&& C2)
def sw3 (z : Nat) : Nat := (z / 16 + z) &&& C3
def sw4 (u : Nat) : Nat := u + u / 256
def sw5 (v : Nat) : Nat := v + v / 65536
def sw6 (t : Nat) : Nat := (t + t / 4294967296) &&& 127
def sw (x : Nat) : Nat := sw6 (sw5 (sw4 (sw3 (sw2 (sw1 x)))))
theorem and_split (k q r c d : Nat) (hr : r < 2 ^ k) (hd : d < 2 ^ k) : (2 ^ k * q + r) &&& (2 ^ k * c + d) = 2 ^ k * (q &&& c) + (r &&& d) := by
  refine Nat.eq_of_testBit_eq fun i => ?_
  rw [Nat.testBit_and, Nat.testBit_two_pow_mul_add _ hr, Nat.testBit_two_pow_mul_add _ hd, Nat.testBit_two_pow_mul_add _ (Nat.and_lt_two_pow _ hd)]
  split <;> rw [Nat.testBit_and]
theorem and_digit (k j q r c : Nat) (hr : r < 2 ^ k) (hj : j ≤ k) : (2 ^ k * q + r) &&& (2 ^ k * c + (2 ^ j - 1)) = 2 ^ k * (q &&& c) + r % 2 ^ j := by
  have := Nat.two_pow_pos j
  have := Nat.pow_le_pow_right (show 0 < 2 by omega) hj
  rw [and_split k q r c _ hr (by omega), Nat.and_two_pow_sub_one_eq_mod]
theorem and1 (d0 d1 d2 d3 d4 d5 d6 d7 : Nat) (h0 : d0 < 4) (h1 : d1 < 4) (h2 : d2 < 4) (h3 : d3 < 4) (h4 : d4 < 4) (h5 : d5 < 4) (h6 : d6 < 4) (h7 : d7 < 4) :
    (4 * (4 * (4 * (4 * (4 * (4 * (4 * (4 * 0 + d7) + d6) + d5) + d4) + d3) + d2) + d1) + d0) &&& C1 = (4 * (4 * (4 * (4 * (4 * (4 * (4 * (4 * 0 + d7 % 2) + d6 % 2) + d5 % 2) + d4 % 2) + d3 % 2) + d2 % 2) + d1 % 2) + d0 % 2) := by
  unfold C1
  have s0 := and_digit 2 1 (4 * (4 * (4 * (4 * (4 * (4 * (4 * 0 + d7) + d6) + d5) + d4) + d3) + d2) + d1) d0 1537228672809129301 (by omega) (by omega)
  have s1 := and_digit 2 1 (4 * (4 * (4 * (4 * (4 * (4 * 0 + d7) + d6) + d5) + d4) + d3) + d2) d1 384307168202282325 (by omega) (by omega)
  have s2 := and_digit 2 1 (4 * (4 * (4 * (4 * (4 * 0 + d7) + d6) + d5) + d4) + d3) d2 96076792050570581 (by omega) (by omega)
  have s3 := and_digit 2 1 (4 * (4 * (4 * (4 * 0 + d7) + d6) + d5) + d4) d3 24019198012642645 (by omega) (by omega)
  have s4 := and_digit 2 1 (4 * (4 * (4 * 0 + d7) + d6) + d5) d4 6004799503160661 (by omega) (by omega)
  have s5 := and_digit 2 1 (4 * (4 * 0 + d7) + d6) d5 1501199875790165 (by omega) (by omega)
  have s6 := and_digit 2 1 (4 * 0 + d7) d6 375299968947541 (by omega) (by omega)
  have s7 := and_digit 2 1 0 d7 93824992236885 (by omega) (by omega)
  simp only [Nat.reducePow, Nat.reduceSub, Nat.reduceMul, Nat.reduceAdd, Nat.zero_and] at s0 s1 s2 s3 s4 s5 s6 s7
  rw [s0, s1, s2, s3, s4, s5, s6, s7]
theorem and2 (d0 d1 d2 d3 : Nat) (h0 : d0 < 16) (h1 : d1 < 16) (h2 : d2 < 16) (h3 : d3 < 16) :
    (16 * (16 * (16 * (16 * 0 + d3) + d2) + d1) + d0) &&& C2 = (16 * (16 * (16 * (16 * 0 + d3 % 4) + d2 % 4) + d1 % 4) + d0 % 4) := by
  unfold C2
  have s0 := and_digit 4 2 (16 * (16 * (16 * 0 + d3) + d2) + d1) d0 230584300921369395 (by omega) (by omega)
  have s1 := and_digit 4 2 (16 * (16 * 0 + d3) + d2) d1 14411518807585587 (by omega) (by omega)
  have s2 := and_digit 4 2 (16 * 0 + d3) d2 900719925474099 (by omega) (by omega)
  have s3 := and_digit 4 2 0 d3 56294995342131 (by omega) (by omega)
  simp only [Nat.reducePow, Nat.reduceSub, Nat.reduceMul, Nat.reduceAdd, Nat.zero_and] at s0 s1 s2 s3
  rw [s0, s1, s2, s3]
theorem and3 (d0 d1 : Nat) (h0 : d0 < 256) (h1 : d1 < 256) :
    (256 * (256 * 0 + d1) + d0) &&& C3 = (256 * (256 * 0 + d1 % 16) + d0 % 16) := by
  unfold C3
  have s0 := and_digit 8 4 (256 * 0 + d1) d0 4238682002231055 (by omega) (by omega)
  have s1 := and_digit 8 4 0 d1 16557351571215 (by omega) (by omega)
  simp only [Nat.reducePow, Nat.reduceSub, Nat.reduceMul, Nat.reduceAdd, Nat.zero_and] at s0 s1
  rw [s0, s1]
theorem lo2 {a b : Nat} (h : a < 2) : (a + 2 * b) % 2 ^ 1 = a := by omega
theorem lo2' {a : Nat} (h : a < 2) : a % 2 ^ 1 = a := by omega
theorem lo4 {a b : Nat} (h : a < 4) : (a + 4 * b) % 2 ^ 2 = a := by omega
theorem lo4' {a : Nat} (h : a < 4) : a % 2 ^ 2 = a := by omega
theorem lo16 {a b : Nat} (h : a < 16) : (a + 16 * b) % 2 ^ 4 = a := by omega
theorem half_of {m x q r : Nat} (h : x = m * q + r) (hr : r < m) : x / m = q := by
  rw [h, Nat.mul_add_div (by omega), Nat.div_eq_of_lt hr, Nat.add_zero]
theorem sw1_bits (b0 b1 b2 b3 b4 b5 b6 b7 b8 b9 b10 b11 b12 b13 b14 b15 : Nat) (h0 : b0 < 2) (h1 : b1 < 2) (h2 : b2 < 2) (h3 : b3 < 2) (h4 : b4 < 2) (h5 : b5 < 2) (h6 : b6 < 2) (h7 : b7 < 2) (h8 : b8 < 2) (h9 : b9 < 2) (h10 : b10 < 2) (h11 : b11 < 2) (h12 : b12 < 2) (h13 : b13 < 2) (h14 : b14 < 2) (h15 : b15 < 2) (x : Nat) (hx : x = 1 * b0 + 2 * b1 + 4 * b2 + 8 * b3 + 16 * b4 + 32 * b5 + 64 * b6 + 128 * b7 + 256 * b8 + 512 * b9 + 1024 * b10 + 2048 * b11 + 4096 * b12 + 8192 * b13 + 16384 * b14 + 32768 * b15) : sw1 x = (4 * (4 * (4 * (4 * (4 * (4 * (4 * (4 * 0 + (b14 + b15)) + (b12 + b13)) + (b10 + b11)) + (b8 + b9)) + (b6 + b7)) + (b4 + b5)) + (b2 + b3)) + (b0 + b1)) := by
  have q1 : x / 2 = (4 * (4 * (4 * (4 * (4 * (4 * (4 * (4 * 0 + (b15)) + (b13 + 2 * b14)) + (b11 + 2 * b12)) + (b9 + 2 * b10)) + (b7 + 2 * b8)) + (b5 + 2 * b6)) + (b3 + 2 * b4)) + (b1 + 2 * b2)) := half_of (r := b0) (by rw [hx]; clear hx h0 h1 h2 h3 h4 h5 h6 h7 h8 h9 h10 h11 h12 h13 h14 h15; omega) h0
  have q2 : x = (4 * (4 * (4 * (4 * (4 * (4 * (4 * (4 * 0 + (b14 + 2 * b15)) + (b12 + 2 * b13)) + (b10 + 2 * b11)) + (b8 + 2 * b9)) + (b6 + 2 * b7)) + (b4 + 2 * b5)) + (b2 + 2 * b3)) + (b0 + 2 * b1)) := by rw [hx]; clear hx q1 h0 h1 h2 h3 h4 h5 h6 h7 h8 h9 h10 h11 h12 h13 h14 h15; omega
  have a1 := and1 (b1 + 2 * b2) (b3 + 2 * b4) (b5 + 2 * b6) (b7 + 2 * b8) (b9 + 2 * b10) (b11 + 2 * b12) (b13 + 2 * b14) (b15) (by omega) (by omega) (by omega) (by omega) (by omega) (by omega) (by omega) (by omega)
  have a2 := and1 (b0 + 2 * b1) (b2 + 2 * b3) (b4 + 2 * b5) (b6 + 2 * b7) (b8 + 2 * b9) (b10 + 2 * b11) (b12 + 2 * b13) (b14 + 2 * b15) (by omega) (by omega) (by omega) (by omega) (by omega) (by omega) (by omega) (by omega)
  have p1 := (congrArg (· &&& C1) q1).trans a1
  have p2 := (congrArg (· &&& C1) q2).trans a2
  refine (congr (congrArg (· + ·) p1) p2).trans ?_
  rw [lo2 (b := b2) h1]
  rw [lo2 (b := b1) h0]
  rw [lo2 (b := b4) h3]
  rw [lo2 (b := b3) h2]
  rw [lo2 (b := b6) h5]
  rw [lo2 (b := b5) h4]
  rw [lo2 (b := b8) h7]
  rw [lo2 (b := b7) h6]
  rw [lo2 (b := b10) h9]
  rw [lo2 (b := b9) h8]
  rw [lo2 (b := b12) h11]
  rw [lo2 (b := b11) h10]
  rw [lo2 (b := b14) h13]
  rw [lo2 (b := b13) h12]
  rw [lo2' h15]
  rw [lo2 (b := b15) h14]
  clear h0 h1 h2 h3 h4 h5 h6 h7 h8 h9 h10 h11 h12 h13 h14 h15 a1 a2 q1 q2 p1 p2 hx
  omega
theorem sw2_bits (y0 y1 y2 y3 y4 y5 y6 y7 : Nat) (h0 : y0 < 3) (h1 : y1 < 3) (h2 : y2 < 3) (h3 : y3 < 3) (h4 : y4 < 3) (h5 : y5 < 3) (h6 : y6 < 3) (h7 : y7 < 3) (y : Nat) (hx : y = (4 * (4 * (4 * (4 * (4 * (4 * (4 * (4 * 0 + (y7)) + (y6)) + (y5)) + (y4)) + (y3)) + (y2)) + (y1)) + (y0))) : sw2 y = (16 * (16 * (16 * (16 * 0 + (y6 + y7)) + (y4 + y5)) + (y2 + y3)) + (y0 + y1)) := by
  have q1 : y / 4 = (16 * (16 * (16 * (16 * 0 + (y7)) + (y5 + 4 * y6)) + (y3 + 4 * y4)) + (y1 + 4 * y2)) := half_of (r := y0) (by rw [hx]; clear hx h0 h1 h2 h3 h4 h5 h6 h7; omega) (by omega)
  have q2 : y = (16 * (16 * (16 * (16 * 0 + (y6 + 4 * y7)) + (y4 + 4 * y5)) + (y2 + 4 * y3)) + (y0 + 4 * y1)) := by rw [hx]; clear hx q1 h0 h1 h2 h3 h4 h5 h6 h7; omega
  have a1 := and2 (y1 + 4 * y2) (y3 + 4 * y4) (y5 + 4 * y6) (y7) (by omega) (by omega) (by omega) (by omega)
  have a2 := and2 (y0 + 4 * y1) (y2 + 4 * y3) (y4 + 4 * y5) (y6 + 4 * y7) (by omega) (by omega) (by omega) (by omega)
  have p1 := (congrArg (· &&& C2) q1).trans a1
  have p2 := (congrArg (· &&& C2) q2).trans a2
  refine (congr (congrArg (· + ·) p1) p2).trans ?_
  rw [lo4 (b := y2) (Nat.lt_succ_of_lt h1)]
  rw [lo4 (b := y1) (Nat.lt_succ_of_lt h0)]
  rw [lo4 (b := y4) (Nat.lt_succ_of_lt h3)]
  rw [lo4 (b := y3) (Nat.lt_succ_of_lt h2)]
  rw [lo4 (b := y6) (Nat.lt_succ_of_lt h5)]
  rw [lo4 (b := y5) (Nat.lt_succ_of_lt h4)]
  rw [lo4' (Nat.lt_succ_of_lt h7)]
  rw [lo4 (b := y7) (Nat.lt_succ_of_lt h6)]
  clear h0 h1 h2 h3 h4 h5 h6 h7 a1 a2 q1 q2 p1 p2 hx
  omega
theorem sw3_bits (z0 z1 z2 z3 : Nat) (h0 : z0 < 5) (h1 : z1 < 5) (h2 : z2 < 5) (h3 : z3 < 5) (z : Nat) (hx : z = (16 * (16 * (16 * (16 * 0 + (z3)) + (z2)) + (z1)) + (z0))) : sw3 z = 256 * (z2 + z3) + (z0 + z1) := by
  have q1 : z / 16 = 256 * z3 + 16 * z2 + z1 := half_of (r := z0) (by rw [hx]; omega) (by omega)
  have a1 := and3 ((z0 + z1) + 16 * (z1 + z2)) ((z2 + z3) + 16 * z3) (by omega) (by omega)
  have q2 : z / 16 + z = (256 * (256 * 0 + ((z2 + z3) + 16 * z3)) + ((z0 + z1) + 16 * (z1 + z2))) := by rw [q1, hx]; omega
  have p1 := (congrArg (· &&& C3) q2).trans a1
  refine p1.trans ?_
  have l1 := lo16 (a := z0 + z1) (b := z1 + z2) (by omega)
  have l2 := lo16 (a := z2 + z3) (b := z3) (by omega)
  rw [l1, l2]
  clear p1 a1 q1 q2 hx l1 l2
  omega
theorem sw_end (u a b : Nat) (ha : a < 9) (hb : b < 9) (hu : u = 256 * b + a) : sw6 (sw5 (sw4 u)) = a + b := by
  have e4 : sw4 u = 256 * b + (a + b) := by unfold sw4; omega
  have e5 : sw5 (sw4 u) = 256 * b + (a + b) := by rw [e4]; unfold sw5; omega
  have e6 : (256 * b + (a + b)) / 4294967296 = 0 := Nat.div_eq_of_lt (by omega)
  rw [e5]
  unfold sw6
  rw [e6, show (127 : Nat) = 2 ^ 7 - 1 by rfl, Nat.and_two_pow_sub_one_eq_mod]
  clear e4 e5 e6 hu
  omega
theorem sw_bits (b0 b1 b2 b3 b4 b5 b6 b7 b8 b9 b10 b11 b12 b13 b14 b15 : Nat) (h0 : b0 < 2) (h1 : b1 < 2) (h2 : b2 < 2) (h3 : b3 < 2) (h4 : b4 < 2) (h5 : b5 < 2) (h6 : b6 < 2) (h7 : b7 < 2) (h8 : b8 < 2) (h9 : b9 < 2) (h10 : b10 < 2) (h11 : b11 < 2) (h12 : b12 < 2) (h13 : b13 < 2) (h14 : b14 < 2) (h15 : b15 < 2) (x : Nat) (hx : x = 1 * b0 + 2 * b1 + 4 * b2 + 8 * b3 + 16 * b4 + 32 * b5 + 64 * b6 + 128 * b7 + 256 * b8 + 512 * b9 + 1024 * b10 + 2048 * b11 + 4096 * b12 + 8192 * b13 + 16384 * b14 + 32768 * b15) :
    sw x = b0 + b1 + b2 + b3 + b4 + b5 + b6 + b7 + b8 + b9 + b10 + b11 + b12 + b13 + b14 + b15 ∧ sw1 x < 65536 ∧ sw2 (sw1 x) < 65536 ∧ sw3 (sw2 (sw1 x)) < 65536 := by
  have y1 := sw1_bits b0 b1 b2 b3 b4 b5 b6 b7 b8 b9 b10 b11 b12 b13 b14 b15 h0 h1 h2 h3 h4 h5 h6 h7 h8 h9 h10 h11 h12 h13 h14 h15 x hx
  have y2 := sw2_bits (b0 + b1) (b2 + b3) (b4 + b5) (b6 + b7) (b8 + b9) (b10 + b11) (b12 + b13) (b14 + b15) (by omega) (by omega) (by omega) (by omega) (by omega) (by omega) (by omega) (by omega) _ y1
  have y3 := sw3_bits (b0 + b1 + (b2 + b3)) (b4 + b5 + (b6 + b7)) (b8 + b9 + (b10 + b11)) (b12 + b13 + (b14 + b15)) (by omega) (by omega) (by omega) (by omega) _ y2
  have y4 := sw_end _ _ _ (by omega) (by omega) y3
  refine ⟨by unfold sw; rw [y4]; omega, by omega, by omega, by omega⟩
theorem len_filter_step (p : Nat → Bool) (a : Nat) (l : List Nat) : ((a :: l).filter p).length = (if p a = true then 1 else 0) + (l.filter p).length := by
  rw [List.filter_cons]
  split
  · rw [List.length_cons]; omega
  · omega
theorem bit_num (x i : Nat) : (if x.testBit i = true then 1 else 0) = x / 2 ^ i % 2 := by
  rw [Nat.testBit_eq_decide_div_mod_eq]
  have := Nat.mod_lt (x / 2 ^ i) (show 0 < 2 by omega)
  by_cases h : x / 2 ^ i % 2 = 1
  · simp [h]
  · simp [h]; omega
theorem bits_len (x : Nat) : (bitsOf x).length = x / 1 % 2 + x / 2 % 2 + x / 4 % 2 + x / 8 % 2 + x / 16 % 2 + x / 32 % 2 + x / 64 % 2 + x / 128 % 2 + x / 256 % 2 + x / 512 % 2 + x / 1024 % 2 + x / 2048 % 2 + x / 4096 % 2 + x / 8192 % 2 + x / 16384 % 2 + x / 32768 % 2 := by
  unfold bitsOf
  rw [show List.range 16 = [0, 1, 2, 3, 4, 5, 6, 7, 8, 9, 10, 11, 12, 13, 14, 15] by rfl]
  simp only [len_filter_step, bit_num, Nat.reducePow, List.filter_nil, List.length_nil]
  omega
theorem sw_ok (x : Nat) (hx : x < 65536) : sw x = (bitsOf x).length ∧ sw1 x < 65536 ∧ sw2 (sw1 x) < 65536 ∧ sw3 (sw2 (sw1 x)) < 65536 := by
  rw [bits_len]
  exact sw_bits (x / 1 % 2) (x / 2 % 2) (x / 4 % 2) (x / 8 % 2) (x / 16 % 2) (x / 32 % 2) (x / 64 % 2) (x / 128 % 2) (x / 256 % 2) (x / 512 % 2) (x / 1024 % 2) (x / 2048 % 2) (x / 4096 % 2) (x / 8192 % 2) (x / 16384 % 2) (x / 32768 % 2) (by omega) (by omega) (by omega) (by omega) (by omega) (by omega) (by omega) (by omega) (by omega) (by omega) (by omega) (by omega) (by omega) (by omega) (by omega) (by omega) x (by omega)
theorem u64w (n : Nat) (h : n < 18446744073709551616) : IntKind.u64.wrap (n : Int) = (n : Int) := by rw [IntKind.wrap_u64]; omega
theorem land_i64 (a : Nat) (h : a < 1000000) : Go.bits .and .i64 (a : Int) 127 = ((a &&& 127 : Nat) : Int) := by
  show IntKind.i64.wrap ((BitVec.ofInt 64 (a : Int) &&& BitVec.ofInt 64 127).toNat : Int) = _
  have h1 : (BitVec.ofInt 64 (a : Int)).toNat = a := by rw [BitVec.ofInt_natCast, BitVec.toNat_ofNat]; omega
  have h2 : (BitVec.ofInt 64 (127 : Int)).toNat = 127 := by rfl
  have hx : a &&& 127 ≤ 127 := Nat.and_le_right
  rw [BitVec.toNat_and, h1, h2]
  exact IntWalk.i64_in _ (by omega)

theorem ret_int {k : IntKind} {a b : Int} (h : a = b) : Ending.returned (.int k a) = .returned (.int k b) := by rw [h]

/-- The steps as the walk writes them. -/
def g1 (a : Int) : Int := IntKind.u64.wrap (Go.bits .and .u64 (a / 2) 6148914691236517205 + Go.bits .and .u64 a 6148914691236517205)
def g2 (a : Int) : Int := IntKind.u64.wrap (Go.bits .and .u64 (a / 4) 3689348814741910323 + Go.bits .and .u64 a 3689348814741910323)
def g3 (a : Int) : Int := Go.bits .and .u64 (IntKind.u64.wrap (a / 16 + a)) 1085102592571150095
def g4 (a : Int) : Int := IntKind.u64.wrap (a + a / 256)
def g5 (a : Int) : Int := IntKind.u64.wrap (a + a / 65536)
def g6 (a : Int) : Int := Go.bits .and .i64 (wrap64 (IntKind.u64.wrap (a + a / 4294967296))) 127

theorem g1_nat (x : Nat) (hx : x < 65536) (hs : sw1 x < 65536) : g1 (x : Int) = (sw1 x : Int) := by
  have e1 : Go.bits .and .u64 ((x : Int) / 2) 6148914691236517205 = ((x / 2 &&& C1 : Nat) : Int) := bits_and_u64_nat (x / 2) C1 (by omega) (by decide)
  have e2 : Go.bits .and .u64 (x : Int) 6148914691236517205 = ((x &&& C1 : Nat) : Int) := bits_and_u64_nat x C1 (by omega) (by decide)
  unfold g1
  rw [e1, e2, ← Int.natCast_add]
  exact u64w (sw1 x) (by omega)
theorem g2_nat (y : Nat) (hy : y < 65536) (hs : sw2 y < 65536) : g2 (y : Int) = (sw2 y : Int) := by
  have e4 : Go.bits .and .u64 ((y : Int) / 4) 3689348814741910323 = ((y / 4 &&& C2 : Nat) : Int) := bits_and_u64_nat (y / 4) C2 (by omega) (by decide)
  have e5 : Go.bits .and .u64 (y : Int) 3689348814741910323 = ((y &&& C2 : Nat) : Int) := bits_and_u64_nat y C2 (by omega) (by decide)
  unfold g2
  rw [e4, e5, ← Int.natCast_add]
  exact u64w (sw2 y) (by omega)
theorem g3_nat (z : Nat) (hz : z < 65536) : g3 (z : Int) = (sw3 z : Int) := by
  have e7 : IntKind.u64.wrap ((z : Int) / 16 + (z : Int)) = ((z / 16 + z : Nat) : Int) := u64w (z / 16 + z) (by omega)
  unfold g3
  rw [e7]
  exact bits_and_u64_nat (z / 16 + z) C3 (by omega) (by decide)
theorem g4_nat (u : Nat) (hu : u < 65536) : g4 (u : Int) = (sw4 u : Int) := u64w (u + u / 256) (by omega)
theorem g5_nat (v : Nat) (hv : v < 131072) : g5 (v : Int) = (sw5 v : Int) := u64w (v + v / 65536) (by omega)
theorem g6_nat (t : Nat) (ht : t < 262144) : g6 (t : Int) = (sw6 t : Int) := by
  have e11 : IntKind.u64.wrap ((t : Int) + (t : Int) / 4294967296) = ((t + t / 4294967296 : Nat) : Int) := u64w (t + t / 4294967296) (by omega)
  have e12 : wrap64 ((t + t / 4294967296 : Nat) : Int) = ((t + t / 4294967296 : Nat) : Int) := by unfold wrap64; omega
  unfold g6
  rw [e11, e12]
  exact land_i64 (t + t / 4294967296) (by omega)
theorem sw4_lt (u : Nat) (h : u < 65536) : sw4 u < 131072 := by unfold sw4; omega
theorem sw5_lt (u : Nat) (h : u < 131072) : sw5 u < 262144 := by unfold sw5; omega
theorem g_all (x : Nat) (hx : x < 65536) : g6 (g5 (g4 (g3 (g2 (g1 (x : Int)))))) = ((bitsOf x).length : Int) := by
  obtain ⟨ok, b1, b2, b3⟩ := sw_ok x hx
  have b4 := sw4_lt _ b3
  have b5 := sw5_lt _ b4
  rw [g1_nat x hx b1, g2_nat _ b1 b2, g3_nat _ b2, g4_nat _ b3, g5_nat _ b4, g6_nat _ b5, ← ok]
  rfl

set_option maxHeartbeats 1000000 in
set_option maxRecDepth 100000 in
theorem count64_g (x : Int) (w : World) :
    Calls Tryd.prog 21 #[.int .u64 x] w fun e w' => e = .returned (.int .i64 (g6 (g5 (g4 (g3 (g2 (g1 x))))))) ∧ w = w' := by
  go_enter Tryd.func21, Tryd.ntmps21
  go_wp2
  go_ret
  exact ⟨rfl, rfl⟩

theorem count64_any (x : Nat) (hx : x < 65536) (w : World) :
    Calls Tryd.prog 21 #[.int .u64 (x : Int)] w fun e w' => e = .returned (.int .i64 ((bitsOf x).length : Int)) ∧ w = w' :=
  (count64_g x w).mono fun _ _ ⟨he, hw⟩ => ⟨he.trans (ret_int (g_all x hx)), hw⟩

/-! ### stepping -/
theorem bit_step (x k m : Nat) (hx : x = 2 ^ k * (2 * m + 1)) (j : Nat) :
    x.testBit j = (decide (j = k) || (x &&& (x - 1)).testBit j) ∧ ((x &&& (x - 1)).testBit j = true → k < j) := by
  have e0 : x = 2 ^ k * (2 * m + 1) + 0 := by omega
  have hp := Nat.two_pow_pos k
  have e1 : x - 1 = 2 ^ k * (2 * m) + (2 ^ k - 1) := by rw [hx, Nat.mul_add]; omega
  have t0 : x.testBit j = if j < k then (0 : Nat).testBit j else (2 * m + 1).testBit (j - k) := by
    rw [e0]; exact Nat.testBit_two_pow_mul_add _ hp _
  have t1 : (x - 1).testBit j = if j < k then (2 ^ k - 1).testBit j else (2 * m).testBit (j - k) := by
    rw [e1]; exact Nat.testBit_two_pow_mul_add _ (by omega) _
  rw [Nat.testBit_and, t0, t1]
  rcases Nat.lt_trichotomy j k with h | h | h
  · simp [h]
    omega
  · subst h
    simp [Nat.testBit_zero]
  · have h1 : ¬ j < k := by omega
    have h2 : ¬ j = k := by omega
    obtain ⟨d, rfl⟩ : ∃ d, j = k + (d + 1) := ⟨j - k - 1, by omega⟩
    have h3 : k + (d + 1) - k = d + 1 := by omega
    have h4 : (2 * m + 1).testBit (d + 1) = m.testBit d := by rw [Nat.testBit_succ]; congr 1; omega
    have h5 : (2 * m).testBit (d + 1) = m.testBit d := by rw [Nat.testBit_succ]; congr 1; omega
    rw [if_neg h1, if_neg h1, h3, h4, h5]
    simp

theorem bits_step (x : Nat) (h0 : x ≠ 0) (hx : x < 65536) : bitsOf x = Lib.ctz 64 x :: bitsOf (x &&& (x - 1)) ∧ x &&& (x - 1) < x ∧ Lib.ctz 64 x < 16 := by
  obtain ⟨m, hm, _⟩ := Lib.ctzFrom_spec 64 x (by omega) (by omega)
  have hc : Lib.ctz 64 x = Lib.ctzFrom 64 x := by unfold Lib.ctz; rw [if_neg h0]
  rw [hc]
  generalize Lib.ctzFrom 64 x = k at *
  have hle : x &&& (x - 1) ≤ x - 1 := Nat.and_le_right
  have hs : x < 2 ^ 16 := hx
  have hs1 : x &&& (x - 1) < 2 ^ 16 := by omega
  have key := bit_step x k m hm
  have hk : x.testBit k = true := by rw [(key k).1]; simp
  have hk16 : k < 16 := by
    rcases Nat.lt_or_ge k 16 with h | h
    · exact h
    · rw [Nat.testBit_lt_two_pow (Nat.lt_of_lt_of_le hs (Nat.pow_le_pow_right (by omega) h))] at hk
      cases hk
  refine ⟨asc_ext (bitsOf_asc (n := 16) (Nat.le_refl _) hs) ?_ fun a => ?_, by omega, hk16⟩
  · have h := bitsOf_asc (n := 16) (Nat.le_refl _) hs1
    have hall : ∀ a ∈ bitsOf (x &&& (x - 1)), k < a := fun a ha => (key a).2 ((mem_bitsOf hs1 a).1 ha)
    refine ⟨Nat.zero_le _, hk16, ?_⟩
    revert h hall
    generalize bitsOf (x &&& (x - 1)) = l
    intro h hall
    cases l with
    | nil => trivial
    | cons b l =>
      obtain ⟨_, g2, g3⟩ := h
      exact ⟨hall b List.mem_cons_self, g2, g3⟩
  · rw [mem_bitsOf hs, List.mem_cons, mem_bitsOf hs1, (key a).1]
    simp

theorem bitsOf_zero : bitsOf 0 = [] := by decide

/-! ### comparing -/
theorem drop_at {l : List Nat} {i : Nat} (h : i < l.length) : l.drop i = l.getD i 0 :: l.drop (i + 1) := by
  rw [List.drop_eq_getElem_cons h]
  simp [List.getD_eq_getElem?_getD, h]

end Go.Proofs.YtnagdebioaekoaaDoor.ChooseBits
