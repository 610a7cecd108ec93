/- Numbers for symbolic runs. No condition. -/
import Derived.Test.YtelmphlmhnipfaaAbMemo
import Derived.Test.YtelmphlmhnipfaaAbCps1
namespace Go.Ab
theorem wrap_i64 (n : Int) (h1 : -9223372036854775808 ≤ n) (h2 : n < 9223372036854775808) : IntKind.i64.wrap n = n := by
  simp only [IntKind.wrap, IntKind.bits, IntKind.signed]; simp; omega
theorem wrap_i32 (n : Int) (h1 : -2147483648 ≤ n) (h2 : n < 2147483648) : IntKind.i32.wrap n = n := by
  simp only [IntKind.wrap, IntKind.bits, IntKind.signed]; simp; omega
theorem wrap_u8 (n : Int) (h1 : 0 ≤ n) (h2 : n < 256) : IntKind.u8.wrap n = n := by
  simp only [IntKind.wrap, IntKind.bits, IntKind.signed]; simp; omega
theorem wrap_u32 (n : Int) (h1 : 0 ≤ n) (h2 : n < 4294967296) : IntKind.u32.wrap n = n := by
  simp only [IntKind.wrap, IntKind.bits, IntKind.signed]; simp; omega
theorem wrap_u64 (n : Int) (h1 : 0 ≤ n) (h2 : n < 18446744073709551616) : IntKind.u64.wrap n = n := by
  simp only [IntKind.wrap, IntKind.bits, IntKind.signed]; simp; omega
theorem wrap_u8m (n : Int) : IntKind.u8.wrap n = n % 256 := by
  simp only [IntKind.wrap, IntKind.bits, IntKind.signed]; simp
theorem or_i64 (a b : Nat) (ha : a < 9223372036854775808) (hb : b < 9223372036854775808) : orF .i64 (a : Int) (b : Int) = some (.int .i64 ((a ||| b : Nat) : Int)) := by
  have ha' : a < 2 ^ 64 := by omega
  have hb' : b < 2 ^ 64 := by omega
  have hq : a ||| b < 2 ^ 63 := Nat.or_lt_two_pow (by omega) (by omega)
  show some (CV.int .i64 (IntKind.i64.wrap (BitVec.ofInt 64 (Int.ofNat a) ||| BitVec.ofInt 64 (Int.ofNat b)).toNat)) = _
  rw [ofInt_nat 64 a ha', ofInt_nat 64 b hb']
  show some (CV.int .i64 (IntKind.i64.wrap ((a ||| b : Nat) : Int))) = _
  rw [wrap_i64 _ (by omega) (by omega)]
/-- The same number, which Lean's kernel doesn't open. -/
noncomputable def shutN (n : Nat) : Nat := Classical.choose (⟨n, rfl⟩ : ∃ m, m = n)
theorem shutN_eq (n : Nat) : shutN n = n := Classical.choose_spec (⟨n, rfl⟩ : ∃ m, m = n)
theorem maxLen_eq : maxLen = 9223372036854775807 := by decide
theorem or_lt63 {a b : Nat} (ha : a < 9223372036854775808) (hb : b < 9223372036854775808) : a ||| b < 9223372036854775808 := by
  have e : (2 : Nat) ^ 63 = 9223372036854775808 := by decide
  have := Nat.or_lt_two_pow (n := 63) (by rw [e]; exact ha) (by rw [e]; exact hb)
  rwa [e] at this
theorem or_add (a b i : Nat) (h : b < 2 ^ i) : (a * 2 ^ i) ||| b = a * 2 ^ i + b := by
  rw [← Nat.shiftLeft_eq]; exact (Nat.shiftLeft_add_eq_or_of_lt h a).symm
theorem or_24 (a b : Nat) (h : b < 16777216) : (a * 16777216) ||| b = a * 16777216 + b := by
  have e : (2 : Nat) ^ 24 = 16777216 := by decide
  have := or_add a b 24 (by rw [e]; exact h)
  rwa [e] at this
theorem or_16 (a b : Nat) (h : b < 65536) : (a * 65536) ||| b = a * 65536 + b := by
  have e : (2 : Nat) ^ 16 = 65536 := by decide
  have := or_add a b 16 (by rw [e]; exact h)
  rwa [e] at this
theorem or_8 (a b : Nat) (h : b < 256) : (a * 256) ||| b = a * 256 + b := by
  have e : (2 : Nat) ^ 8 = 256 := by decide
  have := or_add a b 8 (by rw [e]; exact h)
  rwa [e] at this
theorem pow_24 : (2 : Int) ^ (min (24 : Int).toNat IntKind.i64.bits) = 16777216 := by
  rw [show (24 : Int).toNat = 24 from rfl, Nat.min_eq_left (by decide)]; decide
theorem pow_16 : (2 : Int) ^ (min (16 : Int).toNat IntKind.i64.bits) = 65536 := by
  rw [show (16 : Int).toNat = 16 from rfl, Nat.min_eq_left (by decide)]; decide
theorem pow_8 : (2 : Int) ^ (min (8 : Int).toNat IntKind.i64.bits) = 256 := by
  rw [show (8 : Int).toNat = 8 from rfl, Nat.min_eq_left (by decide)]; decide
theorem natOf_0 : natOf 0 = some 0 := rfl
theorem natOf_1 : natOf 1 = some 1 := rfl
theorem natOf_2 : natOf 2 = some 2 := rfl
theorem natOf_3 : natOf 3 = some 3 := rfl
theorem natOf_4 : natOf 4 = some 4 := rfl
end Go.Ab
namespace Go.Ab
theorem ble_t {a b : Nat} (h : a ≤ b) : Nat.ble a b = true := Nat.ble_eq_true_of_le h
theorem blt_t {a b : Nat} (h : a < b) : Nat.blt a b = true := Nat.ble_eq_true_of_le h
theorem ble_f {a b : Nat} (h : b < a) : Nat.ble a b = false := by
  cases e : Nat.ble a b with
  | false => rfl
  | true => exact absurd (Nat.le_of_ble_eq_true e) (Nat.not_le.2 h)
theorem blt_f {a b : Nat} (h : b ≤ a) : Nat.blt a b = false := ble_f (Nat.lt_succ_of_le h)
end Go.Ab
