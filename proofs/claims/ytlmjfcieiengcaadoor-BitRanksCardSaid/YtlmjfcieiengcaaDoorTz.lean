/- math/bits.TrailingZeros64 in this program, over the table's variable as its initialiser lays it: the kit's arithmetic, walked here. x is a word. -/
import Derived.Test.YtlmjfcieiengcaaDoorMay
import Derived.Shelf.Spec.TrailingZeros
namespace Go.Proofs.YtlmjfcieiengcaaDoor
open Go.RowKit
theorem ctz_spec (x : Nat) (h0 : x ≠ 0) (hx : x < 18446744073709551616) : Lib.ctz 64 x < 64 ∧ x.testBit (Lib.ctz 64 x) = true ∧ (∀ i, i < Lib.ctz 64 x → x.testBit i = false) ∧ ∀ i, (x &&& (x - 1)).testBit i = (x.testBit i && decide (i ≠ Lib.ctz 64 x)) := by
  obtain ⟨m, hm, hk⟩ := Lib.ctzFrom_spec 64 x (by omega) (by simpa using hx)
  have hc : Lib.ctz 64 x = Lib.ctzFrom 64 x := by unfold Lib.ctz; rw [if_neg h0]
  rw [hc]
  generalize Lib.ctzFrom 64 x = k at hm hk
  have hp : 0 < 2 ^ k := Nat.two_pow_pos k
  have h1 : ∀ i, x.testBit i = if i < k then false else (2 * m + 1).testBit (i - k) := by
    intro i
    have := Nat.testBit_two_pow_mul_add (2 * m + 1) (i := k) (b := 0) hp i
    rw [Nat.add_zero, ← hm] at this
    rw [this, Nat.zero_testBit]
  have h2 : ∀ i, (x - 1).testBit i = if i < k then true else (2 * m).testBit (i - k) := by
    intro i
    have e : x - 1 = 2 ^ k * (2 * m) + (2 ^ k - 1) := by rw [hm, Nat.mul_add]; omega
    have := Nat.testBit_two_pow_mul_add (2 * m) (i := k) (b := 2 ^ k - 1) (by omega) i
    rw [← e] at this
    rw [this, Nat.testBit_two_pow_sub_one]
    by_cases h : i < k <;> simp [h]
  refine ⟨hk, ?_, fun i hi => by rw [h1, if_pos hi], fun i => ?_⟩
  · rw [h1, if_neg (by omega), Nat.sub_self, Nat.testBit_zero]
    simp
  · rw [Nat.testBit_and, h1, h2]
    by_cases hi : i < k
    · simp [hi]
    · rw [if_neg hi, if_neg hi]
      by_cases he : i = k
      · subst he; simp [Nat.testBit_zero]
      · obtain ⟨d, hd⟩ : ∃ d, i - k = d + 1 := ⟨i - k - 1, by omega⟩
        rw [hd, Nat.testBit_succ, Nat.testBit_succ, show (2 * m + 1) / 2 = m from by omega, show 2 * m / 2 = m from by omega]
        simp [he]
/-- the table lies in its variable -/
def TabOk (w : World) : Prop := TabAt 0 Lib.deBruijn64tab w ∧ 0 < w.heap.size
theorem TabOk.below {w w' : World} (h : TabOk w) (hb : Below w.heap.size w w') : TabOk w' :=
  ⟨fun j hj => (hb.cell (p := ⟨_, j, none⟩) h.2).trans (h.1 j hj), Nat.lt_of_lt_of_le h.2 hb.size⟩
set_option maxHeartbeats 4000000 in
theorem tz_core (x k idx : Nat) (w : World) (hx0 : ((x : Int) == 0) = false)
    (key : IntKind.u64.wrap (bits BinOp.and IntKind.u64 (x : Int) (IntKind.u64.wrap (-(x : Int))) * 285870213051353865) / 288230376151711744 = (idx : Int))
    (hi : idx < 64) (hk : k < 64) (hcell : w.cell? ⟨0, idx, none⟩ = some (.int .u8 k)) :
    Calls Tryd.prog 75 #[.int .u64 x] w fun e w' => e = .returned (.int .i64 k) ∧ w' = w := by
  go_enter Tryd.func75, Tryd.ntmps75
  go_wp2_with (simp only [key])
  go_ret
  exact ⟨rfl, rfl⟩
theorem tz_any (x : Nat) (hx : x < 18446744073709551616) (hx0 : x ≠ 0) (w : World) (hT : TabOk w) :
    Calls Tryd.prog 75 #[.int .u64 x] w fun e w' => e = .returned (.int .i64 (Lib.ctz 64 x)) ∧ w' = w := by
  obtain ⟨hlow, hk⟩ := Lib.lowest_bit 64 x hx0 hx
  obtain ⟨hi, htab⟩ := Lib.deBruijn64_at _ hk
  have hcell := hT.1 _ hi
  rw [htab] at hcell
  exact tz_core x _ _ w (by simp; omega) (tz64_key x _ hx hx0 hlow) hi hk hcell
end Go.Proofs.YtlmjfcieiengcaaDoor
