/- math/bits.OnesCount64 in this program: the number of ones. x is a word. -/
import Derived.Test.YtlmjfcieiengcaaPop
namespace Go.Proofs.Ytlmjfcieiengcaa
open Go.RowKit
theorem rep85 : rep 8 85 = 6148914691236517205 := by decide
theorem rep51 : rep 8 51 = 3689348814741910323 := by decide
theorem rep15 : rep 8 15 = 1085102592571150095 := by decide
theorem u64_wrap_nat (n : Nat) (h : n < 18446744073709551616) : IntKind.u64.wrap (n : Int) = n := by rw [IntKind.wrap_u64]; omega
theorem oc_1 (x : Nat) (hx : x < 18446744073709551616) : S1 8 x < 18446744073709551616 ∧ IntKind.u64.wrap (bits BinOp.and IntKind.u64 ((x : Int) / 2) 6148914691236517205 + bits BinOp.and IntKind.u64 (x : Int) 6148914691236517205) = (S1 8 x : Nat) := by
  have h1 := u64_and_nat (x / 2) 6148914691236517205 (by omega) (by decide)
  have h2 := u64_and_nat x 6148914691236517205 hx (by decide)
  have b1 : x / 2 &&& 6148914691236517205 ≤ 6148914691236517205 := Nat.and_le_right
  have b2 : x &&& 6148914691236517205 ≤ 6148914691236517205 := Nat.and_le_right
  have e : ((x / 2 : Nat) : Int) = (x : Int) / 2 := by omega
  rw [e] at h1
  unfold S1
  rw [rep85]
  refine ⟨by omega, ?_⟩
  rw [show (6148914691236517205 : Int) = ((6148914691236517205 : Nat) : Int) from rfl, h1, h2, ← Int.natCast_add, u64_wrap_nat _ (by omega)]
theorem oc_2 (x : Nat) (hx : x < 18446744073709551616) : S2 8 x ≤ 7378697629483820646 ∧ IntKind.u64.wrap (bits BinOp.and IntKind.u64 ((x : Int) / 4) 3689348814741910323 + bits BinOp.and IntKind.u64 (x : Int) 3689348814741910323) = (S2 8 x : Nat) := by
  have h1 := u64_and_nat (x / 4) 3689348814741910323 (by omega) (by decide)
  have h2 := u64_and_nat x 3689348814741910323 hx (by decide)
  have b1 : x / 4 &&& 3689348814741910323 ≤ 3689348814741910323 := Nat.and_le_right
  have b2 : x &&& 3689348814741910323 ≤ 3689348814741910323 := Nat.and_le_right
  have e : ((x / 4 : Nat) : Int) = (x : Int) / 4 := by omega
  rw [e] at h1
  unfold S2
  rw [rep51]
  refine ⟨by omega, ?_⟩
  rw [show (3689348814741910323 : Int) = ((3689348814741910323 : Nat) : Int) from rfl, h1, h2, ← Int.natCast_add, u64_wrap_nat _ (by omega)]
theorem oc_3 (x : Nat) (hx : x ≤ 7378697629483820646) : bits BinOp.and IntKind.u64 ((x : Int) / 16 + (x : Int)) 1085102592571150095 = (S3 8 x : Nat) := by
  have e : (x : Int) / 16 + (x : Int) = ((x / 16 + x : Nat) : Int) := by omega
  rw [e]
  have h1 := u64_and_nat (x / 16 + x) 1085102592571150095 (by omega) (by decide)
  unfold S3
  rw [rep15]
  exact h1
theorem pop64_le (x : Nat) : pop 64 x ≤ 64 := by rw [pop_ones]; exact ones_le x 64
set_option maxHeartbeats 4000000 in
theorem oc_core (x y1 y2 z t1 t2 t3 p : Nat) (w : World) (_hx : x < 18446744073709551616) (_b1 : y1 < 18446744073709551616) (b2 : y2 ≤ 7378697629483820646) (_bz : z < 18446744073709551616) (c1 : t1 < 18446744073709551616) (c2 : t2 < 18446744073709551616) (c3 : t3 < 9223372036854775808) (_hp : p ≤ 64)
    (k1 : IntKind.u64.wrap (bits BinOp.and IntKind.u64 ((x : Int) / 2) 6148914691236517205 + bits BinOp.and IntKind.u64 (x : Int) 6148914691236517205) = (y1 : Int))
    (k2 : IntKind.u64.wrap (bits BinOp.and IntKind.u64 ((y1 : Int) / 4) 3689348814741910323 + bits BinOp.and IntKind.u64 (y1 : Int) 3689348814741910323) = (y2 : Int))
    (k3 : bits BinOp.and IntKind.u64 ((y2 : Int) / 16 + (y2 : Int)) 1085102592571150095 = (z : Int))
    (k4 : (z : Int) + (z : Int) / 256 = (t1 : Int)) (k5 : (t1 : Int) + (t1 : Int) / 65536 = (t2 : Int)) (k6 : (t2 : Int) + (t2 : Int) / 4294967296 = (t3 : Int)) (k7 : bits BinOp.and IntKind.i64 (t3 : Int) 127 = (p : Int)) :
    Calls Try.prog 54 #[.int .u64 x] w fun e w' => e = .returned (.int .i64 (p : Nat)) ∧ w = w' := by
  have k8 : IntKind.u64.wrap (t1 : Int) = (t1 : Int) := u64_wrap_nat _ c1
  have k9 : IntKind.u64.wrap (t2 : Int) = (t2 : Int) := u64_wrap_nat _ c2
  have k10 : IntKind.u64.wrap (t3 : Int) = (t3 : Int) := u64_wrap_nat _ (by omega)
  go_enter Try.func54, Try.ntmps54
  go_wp2
  go_ret
  exact ⟨rfl, rfl⟩
theorem ofInt_i64 (a : Nat) (ha : a < 9223372036854775808) : (BitVec.ofInt 64 (a : Int)).toNat = a := by
  rw [BitVec.ofInt_natCast, BitVec.toNat_ofNat]; exact Nat.mod_eq_of_lt (by omega)
theorem i64_and_nat (a b : Nat) (ha : a < 9223372036854775808) (hb : b < 9223372036854775808) : bits .and .i64 (a : Int) (b : Int) = ((a &&& b : Nat) : Int) := by
  have hx : a &&& b < 2 ^ 63 := Nat.and_lt_two_pow _ (by omega)
  show IntKind.i64.wrap ((BitVec.ofInt 64 (a : Int) &&& BitVec.ofInt 64 (b : Int)).toNat : Int) = _
  rw [BitVec.toNat_and, ofInt_i64 a ha, ofInt_i64 b hb, IntKind.wrap_i64]
  omega
theorem oc_any (x : Nat) (hx : x < 18446744073709551616) (w : World) :
    Calls Try.prog 54 #[.int .u64 x] w fun e w' => e = .returned (.int .i64 (pop 64 x : Nat)) ∧ w = w' := by
  obtain ⟨b1, k1⟩ := oc_1 x hx
  obtain ⟨b2, k2⟩ := oc_2 _ b1
  have k3 := oc_3 _ b2
  obtain ⟨c1, c2, c3, c4, c5⟩ := pop_sum x _ _ _ rfl rfl rfl
  unfold T at c1 c2 c3 c4 c5
  refine oc_core x _ _ _ _ _ _ (pop 64 x) w hx b1 b2 c1 c2 c3 c4 (pop64_le x) k1 k2 k3 (by omega) (by omega) (by omega) ?_
  rw [show (127 : Int) = ((127 : Nat) : Int) from rfl, i64_and_nat _ _ c4 (by decide)]
  have h := Nat.and_two_pow_sub_one_eq_mod (S3 8 (S2 8 (S1 8 x)) + S3 8 (S2 8 (S1 8 x)) / 256 + (S3 8 (S2 8 (S1 8 x)) + S3 8 (S2 8 (S1 8 x)) / 256) / 65536 + (S3 8 (S2 8 (S1 8 x)) + S3 8 (S2 8 (S1 8 x)) / 256 + (S3 8 (S2 8 (S1 8 x)) + S3 8 (S2 8 (S1 8 x)) / 256) / 65536) / 4294967296) 7
  rw [show (2 : Nat) ^ 7 - 1 = 127 from rfl, show (2 : Nat) ^ 7 = 128 from rfl] at h
  rw [h, c5]
end Go.Proofs.Ytlmjfcieiengcaa
