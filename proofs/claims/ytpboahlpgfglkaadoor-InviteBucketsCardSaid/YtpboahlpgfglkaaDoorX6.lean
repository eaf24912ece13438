/-
  Own library, part 6: machine words as values, and what the operations give of them.
-/
import Derived.Test.YtpboahlpgfglkaaDoorX5
namespace Go.Proofs.YtpboahlpgfglkaaDoor.X
open Go Go.RowKit
set_option linter.unusedVariables false
set_option linter.unusedSimpArgs false

abbrev u8 (x : UInt8) : Value := .int .u8 (x.toNat : Int)
abbrev u32 (x : UInt32) : Value := .int .u32 (x.toNat : Int)
abbrev u64 (x : UInt64) : Value := .int .u64 (x.toNat : Int)
abbrev i64 (x : Int) : Value := .int .i64 x

theorem wrap_u8 (n : Int) : IntKind.u8.wrap n = n % 256 := by simp [IntKind.wrap, IntKind.bits, IntKind.signed]
theorem wrap_u32 (n : Int) : IntKind.u32.wrap n = n % 4294967296 := by simp [IntKind.wrap, IntKind.bits, IntKind.signed]
theorem wrap_u64 (n : Int) : IntKind.u64.wrap n = n % 18446744073709551616 := by simp [IntKind.wrap, IntKind.bits, IntKind.signed]
theorem wrap_in {n : Int} (h1 : -9223372036854775808 ≤ n) (h2 : n ≤ 9223372036854775807) : IntKind.i64.wrap n = n := by
  simp [IntKind.wrap, IntKind.bits, IntKind.signed]; omega
theorem wrap_u64_of (n : Nat) : IntKind.u64.wrap (n : Int) = ((UInt64.ofNat n).toNat : Int) := by
  rw [wrap_u64, UInt64.toNat_ofNat']; simp
theorem wrap_u32_of (n : Nat) : IntKind.u32.wrap (n : Int) = ((UInt32.ofNat n).toNat : Int) := by
  rw [wrap_u32, UInt32.toNat_ofNat']; simp
theorem wrap_u8_of (n : Nat) : IntKind.u8.wrap (n : Int) = ((UInt8.ofNat n).toNat : Int) := by
  rw [wrap_u8, UInt8.toNat_ofNat']; simp

/-! ### int -/
section
variable {a b : Int}
theorem bi_add (h1 : -9223372036854775808 ≤ a + b) (h2 : a + b ≤ 9223372036854775807) : binRes .add .i64 a .i64 b = some (i64 (a + b)) := by simp [binRes, wrap_in h1 h2]
theorem bi_sub (h1 : -9223372036854775808 ≤ a - b) (h2 : a - b ≤ 9223372036854775807) : binRes .sub .i64 a .i64 b = some (i64 (a - b)) := by simp [binRes, wrap_in h1 h2]
theorem bi_mul (h1 : -9223372036854775808 ≤ a * b) (h2 : a * b ≤ 9223372036854775807) : binRes .mul .i64 a .i64 b = some (i64 (a * b)) := by simp [binRes, wrap_in h1 h2]
theorem bi_rem (h0 : 0 ≤ a) (hb : 0 < b) : binRes .rem .i64 a .i64 b = some (i64 (a % b)) := by
  simp [binRes, show b ≠ 0 by omega, Int.tmod_eq_emod_of_nonneg h0]
theorem bi_quo (h0 : 0 ≤ a) (hb : 0 < b) (h2 : a ≤ 9223372036854775807) : binRes .quo .i64 a .i64 b = some (i64 (a / b)) := by
  have h3 : a / b ≤ a := Int.ediv_le_self _ h0
  have h4 : 0 ≤ a / b := Int.ediv_nonneg h0 (by omega)
  simp [binRes, show b ≠ 0 by omega, Int.tdiv_eq_ediv_of_nonneg h0, wrap_in (show (-9223372036854775808 : Int) ≤ a / b by omega) (by omega)]
theorem b_addw {k : IntKind} : binRes .add k a k b = some (.int k (k.wrap (a + b))) := by simp [binRes]
theorem b_lss {k : IntKind} : binRes .lss k a k b = some (.bool (decide (a < b))) := by simp [binRes]
theorem b_leq {k : IntKind} : binRes .leq k a k b = some (.bool (decide (a ≤ b))) := by simp [binRes]
theorem b_gtr {k : IntKind} : binRes .gtr k a k b = some (.bool (decide (b < a))) := by simp [binRes]
theorem b_geq {k : IntKind} : binRes .geq k a k b = some (.bool (decide (b ≤ a))) := by simp [binRes]
theorem b_eql {k : IntKind} : binRes .eql k a k b = some (.bool (decide (a = b))) := by simp [binRes]; rfl
theorem b_neq {k : IntKind} : binRes .neq k a k b = some (.bool (decide (a ≠ b))) := by
  simp only [binRes, if_true]
  congr 2
  by_cases h : a = b <;> simp [h]
end

/-! ### words -/
theorem b8_neq {a b : UInt8} : binRes .neq .u8 (a.toNat : Int) .u8 (b.toNat : Int) = some (.bool (decide (a ≠ b))) := by
  rw [b_neq]; congr 3; simp only [ne_eq, Int.natCast_inj, UInt8.toNat_inj]
theorem b8_eql {a b : UInt8} : binRes .eql .u8 (a.toNat : Int) .u8 (b.toNat : Int) = some (.bool (decide (a = b))) := by
  rw [b_eql]; congr 3; simp only [Int.natCast_inj, UInt8.toNat_inj]
theorem b64_add {a b : UInt64} : binRes .add .u64 (a.toNat : Int) .u64 (b.toNat : Int) = some (u64 (a + b)) := by
  simp only [binRes, if_true, wrap_u64, u64, UInt64.toNat_add]; simp
theorem b32_add {a b : UInt32} : binRes .add .u32 (a.toNat : Int) .u32 (b.toNat : Int) = some (u32 (a + b)) := by
  simp only [binRes, if_true, wrap_u32, u32, UInt32.toNat_add]; simp
theorem b64_sub {a b : UInt64} : binRes .sub .u64 (a.toNat : Int) .u64 (b.toNat : Int) = some (u64 (a - b)) := by
  simp only [binRes, if_true, wrap_u64, u64, UInt64.toNat_sub]
  have := a.toNat_lt; have := b.toNat_lt
  congr 2
  omega
theorem b32_sub {a b : UInt32} : binRes .sub .u32 (a.toNat : Int) .u32 (b.toNat : Int) = some (u32 (a - b)) := by
  simp only [binRes, if_true, wrap_u32, u32, UInt32.toNat_sub]
  have := a.toNat_lt; have := b.toNat_lt
  congr 2
  omega
theorem b64_mul {a b : UInt64} : binRes .mul .u64 (a.toNat : Int) .u64 (b.toNat : Int) = some (u64 (a * b)) := by
  simp only [binRes, if_true, wrap_u64, u64, UInt64.toNat_mul]; simp
theorem bits_of {k : Nat} (a b : Nat) (ha : a < 2 ^ k) (hb : b < 2 ^ k) :
    (BitVec.ofInt k (a : Int) &&& BitVec.ofInt k (b : Int)).toNat = a &&& b ∧ (BitVec.ofInt k (a : Int) ||| BitVec.ofInt k (b : Int)).toNat = a ||| b ∧ (BitVec.ofInt k (a : Int) ^^^ BitVec.ofInt k (b : Int)).toNat = a ^^^ b := by
  refine ⟨?_, ?_, ?_⟩ <;> simp [BitVec.ofInt_natCast, BitVec.toNat_and, BitVec.toNat_or, BitVec.toNat_xor, Nat.mod_eq_of_lt ha, Nat.mod_eq_of_lt hb]
theorem b8_and {a b : UInt8} : binRes .and .u8 (a.toNat : Int) .u8 (b.toNat : Int) = some (u8 (a &&& b)) := by
  simp only [binRes, if_true]
  show some (Value.int .u8 (IntKind.u8.wrap ((BitVec.ofInt 8 (a.toNat : Int) &&& BitVec.ofInt 8 (b.toNat : Int)).toNat : Int))) = _
  rw [(bits_of _ _ a.toNat_lt b.toNat_lt).1, wrap_u8_of, ← UInt8.toNat_and, UInt8.ofNat_toNat]
theorem b8_or {a b : UInt8} : binRes .or .u8 (a.toNat : Int) .u8 (b.toNat : Int) = some (u8 (a ||| b)) := by
  simp only [binRes, if_true]
  show some (Value.int .u8 (IntKind.u8.wrap ((BitVec.ofInt 8 (a.toNat : Int) ||| BitVec.ofInt 8 (b.toNat : Int)).toNat : Int))) = _
  rw [(bits_of _ _ a.toNat_lt b.toNat_lt).2.1, wrap_u8_of, ← UInt8.toNat_or, UInt8.ofNat_toNat]
theorem b8_xor {a b : UInt8} : binRes .xor .u8 (a.toNat : Int) .u8 (b.toNat : Int) = some (u8 (a ^^^ b)) := by
  simp only [binRes, if_true]
  show some (Value.int .u8 (IntKind.u8.wrap ((BitVec.ofInt 8 (a.toNat : Int) ^^^ BitVec.ofInt 8 (b.toNat : Int)).toNat : Int))) = _
  rw [(bits_of _ _ a.toNat_lt b.toNat_lt).2.2, wrap_u8_of, ← UInt8.toNat_xor, UInt8.ofNat_toNat]
theorem b32_and {a b : UInt32} : binRes .and .u32 (a.toNat : Int) .u32 (b.toNat : Int) = some (u32 (a &&& b)) := by
  simp only [binRes, if_true]
  show some (Value.int .u32 (IntKind.u32.wrap ((BitVec.ofInt 32 (a.toNat : Int) &&& BitVec.ofInt 32 (b.toNat : Int)).toNat : Int))) = _
  rw [(bits_of _ _ a.toNat_lt b.toNat_lt).1, wrap_u32_of, ← UInt32.toNat_and, UInt32.ofNat_toNat]
theorem b32_or {a b : UInt32} : binRes .or .u32 (a.toNat : Int) .u32 (b.toNat : Int) = some (u32 (a ||| b)) := by
  simp only [binRes, if_true]
  show some (Value.int .u32 (IntKind.u32.wrap ((BitVec.ofInt 32 (a.toNat : Int) ||| BitVec.ofInt 32 (b.toNat : Int)).toNat : Int))) = _
  rw [(bits_of _ _ a.toNat_lt b.toNat_lt).2.1, wrap_u32_of, ← UInt32.toNat_or, UInt32.ofNat_toNat]
theorem b32_xor {a b : UInt32} : binRes .xor .u32 (a.toNat : Int) .u32 (b.toNat : Int) = some (u32 (a ^^^ b)) := by
  simp only [binRes, if_true]
  show some (Value.int .u32 (IntKind.u32.wrap ((BitVec.ofInt 32 (a.toNat : Int) ^^^ BitVec.ofInt 32 (b.toNat : Int)).toNat : Int))) = _
  rw [(bits_of _ _ a.toNat_lt b.toNat_lt).2.2, wrap_u32_of, ← UInt32.toNat_xor, UInt32.ofNat_toNat]
theorem b64_and {a b : UInt64} : binRes .and .u64 (a.toNat : Int) .u64 (b.toNat : Int) = some (u64 (a &&& b)) := by
  simp only [binRes, if_true]
  show some (Value.int .u64 (IntKind.u64.wrap ((BitVec.ofInt 64 (a.toNat : Int) &&& BitVec.ofInt 64 (b.toNat : Int)).toNat : Int))) = _
  rw [(bits_of _ _ a.toNat_lt b.toNat_lt).1, wrap_u64_of, ← UInt64.toNat_and, UInt64.ofNat_toNat]
theorem b64_or {a b : UInt64} : binRes .or .u64 (a.toNat : Int) .u64 (b.toNat : Int) = some (u64 (a ||| b)) := by
  simp only [binRes, if_true]
  show some (Value.int .u64 (IntKind.u64.wrap ((BitVec.ofInt 64 (a.toNat : Int) ||| BitVec.ofInt 64 (b.toNat : Int)).toNat : Int))) = _
  rw [(bits_of _ _ a.toNat_lt b.toNat_lt).2.1, wrap_u64_of, ← UInt64.toNat_or, UInt64.ofNat_toNat]
theorem b64_xor {a b : UInt64} : binRes .xor .u64 (a.toNat : Int) .u64 (b.toNat : Int) = some (u64 (a ^^^ b)) := by
  simp only [binRes, if_true]
  show some (Value.int .u64 (IntKind.u64.wrap ((BitVec.ofInt 64 (a.toNat : Int) ^^^ BitVec.ofInt 64 (b.toNat : Int)).toNat : Int))) = _
  rw [(bits_of _ _ a.toNat_lt b.toNat_lt).2.2, wrap_u64_of, ← UInt64.toNat_xor, UInt64.ofNat_toNat]
theorem bi_xor {a b : Nat} (ha : a < 9223372036854775808) (hb : b < 9223372036854775808) : binRes .xor .i64 (a : Int) .i64 (b : Int) = some (i64 ((a ^^^ b : Nat) : Int)) := by
  simp only [binRes, if_true]
  show some (Value.int .i64 (IntKind.i64.wrap ((BitVec.ofInt 64 (a : Int) ^^^ BitVec.ofInt 64 (b : Int)).toNat : Int))) = _
  rw [(bits_of a b (by omega) (by omega)).2.2]
  have : a ^^^ b < 2 ^ 63 := Nat.xor_lt_two_pow (by omega) (by omega)
  rw [wrap_in (by omega) (by omega)]
/-- shifts by a count below the width -/
theorem shr_eq (n c k : Nat) (h : c ≤ k) : ((n : Int)).fdiv (2 ^ (min c k)) = ((n / 2 ^ c : Nat) : Int) := by
  rw [Nat.min_eq_left h, Int.fdiv_eq_ediv_of_nonneg _ (Int.pow_nonneg (by omega)), Int.natCast_ediv, Int.natCast_pow]; rfl
theorem b64_shr {a : UInt64} {k : IntKind} {c : Int} {c' : Nat} (hc : c = (c' : Int)) (h : c' < 64) : binRes .shr .u64 (a.toNat : Int) k c = some (u64 (a >>> UInt64.ofNat c')) := by
  subst hc
  have h1 : ¬ ((c' : Int) < 0) := by omega
  simp only [binRes, if_neg h1, Int.toNat_natCast, IntKind.bits, u64, shr_eq _ _ _ (Nat.le_of_lt h), UInt64.toNat_shiftRight, UInt64.toNat_ofNat', Nat.shiftRight_eq_div_pow]
  rw [Nat.mod_eq_of_lt (show c' < 2 ^ 64 by omega), Nat.mod_eq_of_lt h]
theorem b32_shr {a : UInt32} {k : IntKind} {c : Int} {c' : Nat} (hc : c = (c' : Int)) (h : c' < 32) : binRes .shr .u32 (a.toNat : Int) k c = some (u32 (a >>> UInt32.ofNat c')) := by
  subst hc
  have h1 : ¬ ((c' : Int) < 0) := by omega
  simp only [binRes, if_neg h1, Int.toNat_natCast, IntKind.bits, u32, shr_eq _ _ _ (Nat.le_of_lt h), UInt32.toNat_shiftRight, UInt32.toNat_ofNat', Nat.shiftRight_eq_div_pow]
  rw [Nat.mod_eq_of_lt (show c' < 2 ^ 32 by omega), Nat.mod_eq_of_lt h]
theorem b8_shr {a : UInt8} {k : IntKind} {c : Int} {c' : Nat} (hc : c = (c' : Int)) (h : c' < 8) : binRes .shr .u8 (a.toNat : Int) k c = some (u8 (a >>> UInt8.ofNat c')) := by
  subst hc
  have h1 : ¬ ((c' : Int) < 0) := by omega
  simp only [binRes, if_neg h1, Int.toNat_natCast, IntKind.bits, u8, shr_eq _ _ _ (Nat.le_of_lt h), UInt8.toNat_shiftRight, UInt8.toNat_ofNat', Nat.shiftRight_eq_div_pow]
  rw [Nat.mod_eq_of_lt (show c' < 2 ^ 8 by omega), Nat.mod_eq_of_lt h]
theorem b64_shl {a : UInt64} {k : IntKind} {c : Int} {c' : Nat} (hc : c = (c' : Int)) (h : c' < 64) : binRes .shl .u64 (a.toNat : Int) k c = some (u64 (a <<< UInt64.ofNat c')) := by
  subst hc
  have h1 : ¬ ((c' : Int) < 0) := by omega
  simp only [binRes, if_neg h1, Int.toNat_natCast, IntKind.bits, u64, wrap_u64, UInt64.toNat_shiftLeft, UInt64.toNat_ofNat', Nat.shiftLeft_eq, Nat.min_eq_left (Nat.le_of_lt h)]
  rw [Nat.mod_eq_of_lt (show c' < 2 ^ 64 by omega), Nat.mod_eq_of_lt h]
  have : ((a.toNat * 2 ^ c' : Nat) : Int) = (a.toNat : Int) * 2 ^ c' := by rw [Int.natCast_mul, Int.natCast_pow]; rfl
  rw [← this, Int.natCast_emod]; rfl
theorem b32_shl {a : UInt32} {k : IntKind} {c : Int} {c' : Nat} (hc : c = (c' : Int)) (h : c' < 32) : binRes .shl .u32 (a.toNat : Int) k c = some (u32 (a <<< UInt32.ofNat c')) := by
  subst hc
  have h1 : ¬ ((c' : Int) < 0) := by omega
  simp only [binRes, if_neg h1, Int.toNat_natCast, IntKind.bits, u32, wrap_u32, UInt32.toNat_shiftLeft, UInt32.toNat_ofNat', Nat.shiftLeft_eq, Nat.min_eq_left (Nat.le_of_lt h)]
  rw [Nat.mod_eq_of_lt (show c' < 2 ^ 32 by omega), Nat.mod_eq_of_lt h]
  have : ((a.toNat * 2 ^ c' : Nat) : Int) = (a.toNat : Int) * 2 ^ c' := by rw [Int.natCast_mul, Int.natCast_pow]; rfl
  rw [← this, Int.natCast_emod]; rfl
/-! ### conversions -/
theorem conv_i8 {a : UInt8} : IntKind.i64.wrap (a.toNat : Int) = (a.toNat : Int) := by have := a.toNat_lt; exact wrap_in (by omega) (by omega)
theorem conv_i32 {a : UInt32} : IntKind.i64.wrap (a.toNat : Int) = (a.toNat : Int) := by have := a.toNat_lt; exact wrap_in (by omega) (by omega)
theorem conv_8_32 {a : UInt8} : IntKind.u32.wrap (a.toNat : Int) = (a.toUInt32.toNat : Int) := by
  have := a.toNat_lt
  rw [wrap_u32, UInt8.toNat_toUInt32]; omega
theorem conv_8_64 {a : UInt8} : IntKind.u64.wrap (a.toNat : Int) = (a.toUInt64.toNat : Int) := by
  have := a.toNat_lt
  rw [wrap_u64, UInt8.toNat_toUInt64]; omega
theorem conv_32_64 {a : UInt32} : IntKind.u64.wrap (a.toNat : Int) = (a.toUInt64.toNat : Int) := by
  have := a.toNat_lt
  rw [wrap_u64, UInt32.toNat_toUInt64]; omega
theorem conv_32_8 {a : UInt32} : IntKind.u8.wrap (a.toNat : Int) = (a.toUInt8.toNat : Int) := by
  rw [wrap_u8, UInt32.toNat_toUInt8]; simp
theorem conv_64_8 {a : UInt64} : IntKind.u8.wrap (a.toNat : Int) = (a.toUInt8.toNat : Int) := by
  rw [wrap_u8, UInt64.toNat_toUInt8]; simp
theorem conv_64_32 {a : UInt64} : IntKind.u32.wrap (a.toNat : Int) = (a.toUInt32.toNat : Int) := by
  rw [wrap_u32, UInt64.toNat_toUInt32]; simp
theorem all_u8 (l : List UInt8) : (l.map u8).all (·.oneCell') = true := by simp [Value.oneCell']
theorem take_snoc8 {l : List UInt8} {k : Nat} (h : k < l.length) : l.take (k + 1) = l.take k ++ [l.getD k 0] := by
  rw [List.take_succ_eq_append_getElem h]; simp [List.getD, List.getElem?_eq_getElem h]
/-- a cell of a list of bytes -/
theorem get_u8 {l : List UInt8} {i : Nat} (h : i < l.length) : (l.map u8)[i]? = some (u8 (l.getD i 0)) := by
  simp [List.getElem?_eq_getElem h, List.getD]
end Go.Proofs.YtpboahlpgfglkaaDoor.X
