/- The small functions of bitset and sloperef3: words, sized, blank, within, put, none, after, same, num. No condition but ranges. -/
import Derived.Test.YtlmjfcieiengcaaSets
import Derived.Test.YtlmjfcieiengcaaScan
namespace Go.Proofs.Ytlmjfcieiengcaa
open Go.RowKit
theorem info_u64 : (Try.prog.info? 75).map (fun i => (i.zero, i.size, i.bytes)) = some (some (.int .u64 0), 1, 8) := by kernel_rfl
theorem info_parts' {P : Program} {t : TypeId} {z : Value} {s b : Nat} (h : (P.info? t).map (fun i => (i.zero, i.size, i.bytes)) = some (some z, s, b)) : ∃ i, P.info? t = some i ∧ i.zero = some z ∧ i.size = s ∧ i.bytes = b := by
  obtain ⟨i0, hi, hzz⟩ := Option.map_eq_some_iff.1 h
  simp only [Prod.mk.injEq] at hzz
  exact ⟨i0, hi, hzz.1, hzz.2.1, hzz.2.2⟩
theorem num_any (n : Int) (w : World) : Calls Try.prog 10 #[.int .i64 n] w fun e w' => e = .returned (.int .i64 n) ∧ w = w' := by
  go_enter Try.func10, Try.ntmps10
  go_wp2
  go_ret
  exact ⟨rfl, rfl⟩
theorem words_any (n : Nat) (hn : n ≤ 65536) (w : World) : Calls Try.prog 59 #[.int .i64 n] w fun e w' => e = .returned (.int .i64 (nw n)) ∧ w = w' := by
  go_enter Try.func59, Try.ntmps59
  go_wp2
  go_ret
  exact ⟨ret_int (by rw [nw_eq]; omega), rfl⟩
/-- is it a universe's size? -/
def szB (n : Int) : Bool := decide (0 ≤ n ∧ n ≤ 4096)
/-- has a universe of so many numbers e? -/
def inB (e sz : Int) : Bool := decide (0 ≤ e ∧ e < sz)
theorem sized_any (n : Int) (w : World) : Calls Try.prog 33 #[.int .i64 n] w fun e w' => e = .returned (.bool (szB n)) ∧ w = w' := by
  by_cases h : 0 ≤ n
  all_goals
    go_enter Try.func33, Try.ntmps33
    go_wp2
    go_ret
    exact ⟨congrArg (fun b => Ending.returned (.bool b)) (by simp [h, szB]; try omega), rfl⟩
theorem rsized_any (n : Int) (w : World) : Calls Try.prog 39 #[.int .i64 n] w fun e w' => e = .returned (.bool (szB n)) ∧ w = w' := by
  by_cases h : 0 ≤ n
  all_goals
    go_enter Try.func39, Try.ntmps39
    go_wp2
    go_ret
    exact ⟨congrArg (fun b => Ending.returned (.bool b)) (by simp [h, szB]; try omega), rfl⟩
theorem within_any (sz e : Int) (v : Value) (w : World) : Calls Try.prog 35 #[.agg #[.int .i64 sz, v], .int .i64 e] w fun x w' => x = .returned (.bool (inB e sz)) ∧ Below w.heap.size w w' := by
  by_cases h : 0 ≤ e
  all_goals
    go_enter Try.func35, Try.ntmps35
    go_wp2
    go_ret
    exact ⟨congrArg (fun b => Ending.returned (.bool b)) (by simp [h, inB]; try omega), bl_a (Below.refl _ _) _⟩
theorem none_any (w : World) : Calls Try.prog 37 #[] w fun x w' => x = .returned (.agg #[.int .i64 0, .slice none 0 0]) ∧ Below w.heap.size w w' := by
  go_enter Try.func37, Try.ntmps37
  go_wp2
  refine bodyPost_ret (res_c rfl _ _ (w.heap.size) 24 #[.int .i64 0, .slice none 0 0] (0, 0) _ rfl (ha_new _ _ _ rfl) Try.underlying24 rfl (by kernel_rfl)) rfl ?_
  exact ⟨rfl, bl_a (Below.refl _ _) _⟩
theorem blank_any (n : Nat) (hn : n ≤ 65536) (w : World) : Calls Try.prog 34 #[.int .i64 n] w fun x w' => ∃ g, x = .returned (.agg #[.int .i64 n, .slice (some ⟨g, 0, none⟩) (nw n) (nw n)]) ∧ w.heap.size ≤ g ∧ WB w' g (List.replicate (nw n) 0) ∧ Below w.heap.size w w' := by
  obtain ⟨i0, hi, hz0, hz1, hz2⟩ := info_parts' info_u64
  have hmk : ∀ W : World, (Instr.makeSlice 22 (.int .i64 ((nw n : Nat) : Int)) (.int .i64 ((nw n : Nat) : Int))).run Try.prog W = .ok (.slice (some ⟨W.heap.size, 0, none⟩) (nw n) (nw n)) (W.alloc (.cells (madeCells #[.int .u64 0] (nw n)) 75)) := by
    intro W
    have h := run_make (P := Try.prog) W 22 75 i0 (.int .u64 0) Try.underlying22 hi hz0 .i64 .i64 ((nw n : Nat) : Int) ((nw n : Nat) : Int) (by omega) (by omega) (by rw [hz2, nw_eq]; omega) (by rw [nw_eq]; omega)
    rw [hz1] at h
    simpa [Value.cells] using h
  go_enter Try.func34, Try.ntmps34
  go_wp2_with (go_at_call 59; refine (words_any n hn _).mono ?_; rintro e w' ⟨rfl, rfl⟩)
  refine bodyPost_ret (res_c rfl _ _ (w.heap.size) 24 #[.int .i64 n, .slice (some ⟨w.heap.size + 1, 0, none⟩) (nw n) (nw n)] (0, 0) _ rfl ((ha_old _ _ _ (by simp)).trans (ha_new _ _ _ rfl)) Try.underlying24 rfl (by kernel_rfl)) rfl ?_
  exact ⟨w.heap.size + 1, rfl, by omega, by simpa using WB.made (w.alloc _) (nw n), bl_a (bl_a (Below.refl _ _) _) _⟩
theorem wrap_pow (e : Nat) : IntKind.u64.wrap (2 ^ (e % 64)) = ((2 ^ (e % 64) : Nat) : Int) := by
  rw [IntKind.wrap_u64]
  have h := pow_lt64 e
  have h2 : ((2 ^ (e % 64) : Nat) : Int) = 2 ^ (e % 64) := by push_cast; rfl
  rw [← h2]
  generalize 2 ^ (e % 64) = p at h
  omega
theorem or_pow (X e : Nat) (hX : X < 18446744073709551616) : bits .or .u64 (X : Int) (IntKind.u64.wrap (2 ^ (e % 64))) = ((X ||| 2 ^ (e % 64) : Nat) : Int) := by
  rw [wrap_pow, u64_or_nat _ _ hX (pow_lt64 e)]
theorem put_any (sz : Int) (g c e : Nat) (ws : List Nat) (w : World) (hb : WB w g ws) (he : e / 64 < ws.length) (hl : ws.length ≤ 65536) (hlt : ∀ j, wd ws j < 18446744073709551616) :
    Calls Try.prog 36 #[.agg #[.int .i64 sz, .slice (some ⟨g, 0, none⟩) ws.length c], .int .i64 e] w fun x w' => x = .returned (.tuple #[]) ∧ WB w' g (setb ws e) ∧ w.grownBy w' (some g) := by
  have hcell := hb.cell he
  have hfr := hb.frozen (e / 64)
  have hg := hb.lt
  obtain ⟨X, hX⟩ : ∃ X, X = wd ws (e / 64) := ⟨_, rfl⟩
  rw [← hX] at hcell
  have hX64 : X < 18446744073709551616 := by rw [hX]; exact hlt _
  have HX := Lib.hid hX
  clear hX
  go_enter Try.func36, Try.ntmps36
  go_wp2
  go_region
  go_end0
  rw [or_pow X e hX64, HX.out]
  exact ⟨rfl, (hb.set he _).alloc _, grown_drew (grown_alloc (grown_set (grown_refl w _) _ _) _)⟩
end Go.Proofs.Ytlmjfcieiengcaa
