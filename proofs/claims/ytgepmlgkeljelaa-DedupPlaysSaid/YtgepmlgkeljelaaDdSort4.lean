/- slices.Sort at []uint32: the length in bits. -/
import Derived.Test.YtgepmlgkeljelaaDdSort3
set_option maxRecDepth 100000
namespace Go.Proofs.Ytgepmlgkeljelaa.Vc
open Go Go.Proofs Go.Sort

abbrev len8T : ByteArray := bs [0, 1, 2, 2, 3, 3, 3, 3, 4, 4, 4, 4, 4, 4, 4, 4, 5, 5, 5, 5, 5, 5, 5, 5, 5, 5, 5, 5, 5, 5, 5, 5, 6, 6, 6, 6, 6, 6, 6, 6, 6, 6, 6, 6, 6, 6, 6, 6, 6, 6, 6, 6, 6, 6, 6, 6, 6, 6, 6, 6, 6, 6, 6, 6, 7, 7, 7, 7, 7, 7, 7, 7, 7, 7, 7, 7, 7, 7, 7, 7, 7, 7, 7, 7, 7, 7, 7, 7, 7, 7, 7, 7, 7, 7, 7, 7, 7, 7, 7, 7, 7, 7, 7, 7, 7, 7, 7, 7, 7, 7, 7, 7, 7, 7, 7, 7, 7, 7, 7, 7, 7, 7, 7, 7, 7, 7, 7, 7, 8, 8, 8, 8, 8, 8, 8, 8, 8, 8, 8, 8, 8, 8, 8, 8, 8, 8, 8, 8, 8, 8, 8, 8, 8, 8, 8, 8, 8, 8, 8, 8, 8, 8, 8, 8, 8, 8, 8, 8, 8, 8, 8, 8, 8, 8, 8, 8, 8, 8, 8, 8, 8, 8, 8, 8, 8, 8, 8, 8, 8, 8, 8, 8, 8, 8, 8, 8, 8, 8, 8, 8, 8, 8, 8, 8, 8, 8, 8, 8, 8, 8, 8, 8, 8, 8, 8, 8, 8, 8, 8, 8, 8, 8, 8, 8, 8, 8, 8, 8, 8, 8, 8, 8, 8, 8, 8, 8, 8, 8, 8, 8, 8, 8, 8, 8, 8, 8, 8, 8, 8, 8, 8, 8, 8, 8, 8, 8]
def len8Ok (i : Nat) : Bool := match i with | 256 => true | i => (let n := (len8T.data.toList.getD i 0).toNat; Nat.ble n 8 && (Nat.beq i 0 || Nat.ble (2 ^ n) (2 * i)))
theorem len8All : ((List.range 256).all len8Ok) = true := by kernel_rfl
theorem len8 {i : Nat} (hi : i < 256) : ∃ n : Nat, bt len8T (i : Int) = (n : Int) ∧ n ≤ 8 ∧ (1 ≤ i → 2 ^ n ≤ 2 * i) := by
  have h := List.all_eq_true.1 len8All i (List.mem_range.2 hi)
  refine ⟨(len8T.data.toList.getD i 0).toNat, rfl, ?_⟩
  unfold len8Ok at h
  split at h
  · omega
  · simp only [Bool.and_eq_true, Bool.or_eq_true, Nat.ble_eq] at h
    refine ⟨h.1, fun h1 => ?_⟩
    rcases h.2 with h2 | h2
    · have := Nat.eq_of_beq_eq_true h2; omega
    · exact h2

theorem s_Len64 (w : World) {x : Nat} (hx : x ≤ 100000) : Calls P F.«math_bits_Len64» ⟨[.int .u64 (x : Nat)]⟩ w fun e w' => (∃ n : Nat, e = .returned (.int .i64 (n : Nat)) ∧ n ≤ 40 ∧ (1 ≤ x → 2 ^ n ≤ 2 * x)) ∧ w = w' := by
  refine ok_math_bits_Len64 ?_
  unfold V_math_bits_Len64
  refine ⟨fun t w' => w = w' ∧ t.1 = (x : Int) ∧ t.2.1 = 0, bcase_mk (fun hb => by have := of_decide_eq_true hb; omega) (fun _ => ⟨rfl, rfl, rfl⟩), ?_⟩
  rintro _ _ _ _ ⟨rfl, rfl, rfl⟩
  refine ⟨fun t w' => w = w' ∧ ∃ y k : Nat, t.1 = (y : Int) ∧ t.2.1 = (k : Int) ∧ y < 65536 ∧ k ≤ 16 ∧ y * 2 ^ k ≤ x ∧ (1 ≤ x → 1 ≤ y), bcase_mk (fun hb => ⟨by decide, rfl, x / 65536, 16, ?_, rfl, by omega, by omega, by omega, fun _ => ?_⟩) (fun hb => ⟨rfl, x, 0, rfl, rfl, ?_, by omega, by omega, fun h => h⟩), ?_⟩
  · show Int.fdiv (x : Int) (2 ^ (min (16 : Int).toNat (IntKind.bits .u64))) = ((x / 65536 : Nat) : Int)
    rw [Int.fdiv_eq_ediv_of_nonneg _ (by decide)]
    rfl
  · have := of_decide_eq_true hb; omega
  · have := of_decide_eq_false hb; omega
  rintro _ _ _ _ ⟨rfl, y, k, rfl, rfl, hy, hk, hyx, h1⟩
  have hf : Int.fdiv (y : Int) (2 ^ (min (8 : Int).toNat (IntKind.bits .u64))) = ((y / 256 : Nat) : Int) := by
    rw [Int.fdiv_eq_ediv_of_nonneg _ (by decide)]
    rfl
  simp only [hf]
  refine bcase_mk (fun hb => ?_) (fun hb => ?_)
  · have hb : (y : Int) ≥ 256 := of_decide_eq_true hb
    obtain ⟨n, hn1, hn2, hn3⟩ := len8 (i := y / 256) (by omega)
    have hz : 1 ≤ y / 256 := by omega
    rw [wrapU8 (n := ((y / 256 : Nat) : Int)) (by omega) (by omega)]
    refine ⟨by decide, ⟨by omega, ?_⟩, ?_⟩
    · show ((y / 256 : Nat) : Int) < (256 : Int)
      omega
    · refine ⟨⟨k + 8 + n, ?_, by omega, fun hx1 => ?_⟩, by first | exact rfl | exact trivial⟩
      · have e : IntKind.wrap .i64 (IntKind.wrap .i64 ((k : Int) + 8) + IntKind.wrap .i64 (bt len8T ((y / 256 : Nat) : Int))) = ((k + 8 + n : Nat) : Int) := by
          rw [hn1, wrap64 (n := (k : Int) + 8) (by omega) (by omega), wrap64 (n := (n : Int)) (by omega) (by omega), wrap64 (by omega) (by omega)]; omega
        exact congrArg (fun z => Ending.returned (.int .i64 z)) e
      · have h2 := hn3 hz
        have h3 : 2 ^ (k + 8 + n) = 2 ^ k * 256 * 2 ^ n := by rw [Nat.pow_add, Nat.pow_add]
        have h4 : 2 ^ k * 256 * 2 ^ n ≤ 2 ^ k * 256 * (2 * (y / 256)) := Nat.mul_le_mul_left _ h2
        have h5 : 2 ^ k * 256 * (2 * (y / 256)) = 2 * (256 * (y / 256) * 2 ^ k) := by
          rw [Nat.mul_comm (2 ^ k) 256, Nat.mul_assoc, Nat.mul_left_comm (2 ^ k), Nat.mul_left_comm 256, Nat.mul_comm (2 ^ k), Nat.mul_assoc]
        have h6 : 256 * (y / 256) * 2 ^ k ≤ y * 2 ^ k := Nat.mul_le_mul_right _ (Nat.mul_div_le y 256)
        omega
  · have hb : ¬ (y : Int) ≥ 256 := of_decide_eq_false hb
    obtain ⟨n, hn1, hn2, hn3⟩ := len8 (i := y) (by omega)
    rw [wrapU8 (n := (y : Int)) (by omega) (by omega)]
    refine ⟨⟨by omega, ?_⟩, ?_⟩
    · show (y : Int) < (256 : Int)
      omega
    · refine ⟨⟨k + n, ?_, by omega, fun hx1 => ?_⟩, by first | exact rfl | exact trivial⟩
      · have e : IntKind.wrap .i64 ((k : Int) + IntKind.wrap .i64 (bt len8T (y : Int))) = ((k + n : Nat) : Int) := by
          rw [hn1, wrap64 (n := (n : Int)) (by omega) (by omega), wrap64 (by omega) (by omega)]; omega
        exact congrArg (fun z => Ending.returned (.int .i64 z)) e
      · have h2 := hn3 (h1 hx1)
        have h3 : 2 ^ (k + n) = 2 ^ k * 2 ^ n := Nat.pow_add ..
        have h4 : 2 ^ k * 2 ^ n ≤ 2 ^ k * (2 * y) := Nat.mul_le_mul_left _ h2
        have h5 : 2 ^ k * (2 * y) = 2 * (y * 2 ^ k) := by rw [Nat.mul_left_comm, Nat.mul_comm (2 ^ k)]
        omega

theorem wrapU64 {n : Int} (h1 : 0 ≤ n) (h2 : n < 18446744073709551616) : IntKind.wrap .u64 n = n := by
  show (if false && decide (n % 18446744073709551616 ≥ 9223372036854775808) then n % 18446744073709551616 - 18446744073709551616 else n % 18446744073709551616) = n
  simp only [Bool.false_and, Bool.false_eq_true, if_false]
  omega

theorem s_Len (w : World) {x : Nat} (hx : x ≤ 100000) : Calls P F.«math_bits_Len» ⟨[.int .u64 (x : Nat)]⟩ w fun e w' => (∃ n : Nat, e = .returned (.int .i64 (n : Nat)) ∧ n ≤ 40 ∧ (1 ≤ x → 2 ^ n ≤ 2 * x)) ∧ w = w' := by
  refine ok_math_bits_Len ((s_Len64 w hx).mono ?_)
  rintro _ _ ⟨⟨n, rfl, h⟩, rfl⟩
  exact ⟨_, rfl, ⟨n, rfl, h⟩, rfl⟩

theorem s_nextPow (w : World) {x : Nat} (hx : x ≤ 100000) (h1 : 1 ≤ x) : Calls P F.«slices_nextPowerOfTwo» ⟨[.int .i64 (x : Nat)]⟩ w fun e w' => (∃ m : Nat, e = .returned (.int .u64 (m : Nat)) ∧ 1 ≤ m ∧ m ≤ 2 * x) ∧ w = w' := by
  refine ok_slices_nextPowerOfTwo ?_
  unfold V_slices_nextPowerOfTwo
  rw [wrapU64 (n := (x : Int)) (by omega) (by omega)]
  refine (s_Len w hx).mono ?_
  rintro _ _ ⟨⟨n, rfl, hn, h2⟩, rfl⟩
  have h3 := h2 h1
  refine ⟨_, rfl, by omega, ⟨2 ^ n, ?_, Nat.one_le_two_pow, h3⟩, rfl⟩
  have hb : min ((n : Nat) : Int).toNat (IntKind.bits .u64) = n := by
    show min n 64 = n
    omega
  rw [hb]
  have e : (1 : Int) * 2 ^ n = ((2 ^ n : Nat) : Int) := by rw [Int.one_mul]; exact (Int.natCast_pow 2 n).symm
  have hlt : (2 ^ n : Nat) < 18446744073709551616 := by omega
  rw [e, wrapU64 (n := ((2 ^ n : Nat) : Int)) (Int.natCast_nonneg _) (Int.ofNat_lt.2 hlt)]

theorem and_le (x : Int) {y : Nat} (hy : y < 1000000) : ∃ z : Nat, bits .and .u64 x (y : Int) = (z : Int) ∧ z ≤ y := by
  have h1 : (BitVec.ofInt 64 (y : Int)).toNat = y := by
    rw [BitVec.toNat_ofInt]
    have : ((y : Int) % ((2 ^ 64 : Nat) : Int)).toNat = y := by
      rw [Int.emod_eq_of_lt (by omega) (by simp; omega)]; rfl
    exact this
  have h2 : (BitVec.ofInt 64 x &&& BitVec.ofInt 64 (y : Int)).toNat ≤ y := by
    rw [BitVec.toNat_and, h1]
    exact Nat.and_le_right
  refine ⟨(BitVec.ofInt 64 x &&& BitVec.ofInt 64 (y : Int)).toNat, ?_, h2⟩
  exact wrapU64 (n := (((BitVec.ofInt 64 x &&& BitVec.ofInt 64 (y : Int)).toNat : Nat) : Int)) (by omega) (by omega)

end Go.Proofs.Ytgepmlgkeljelaa.Vc
