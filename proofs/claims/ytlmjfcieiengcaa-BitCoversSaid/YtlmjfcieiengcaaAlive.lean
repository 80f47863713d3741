/- slopelaw3.alive returns true. No condition. -/
import Derived.Test.YtlmjfcieiengcaaMake
namespace Go.Proofs.Ytlmjfcieiengcaa
open Go.RowKit
def f303 (y : Nat) : Bool := ((false || decide (y = 3)) || decide (y = 0)) || decide (y = 3)
theorem mk303 : mkspec 5 [3, 0, 3] = .set 5 f303 := rfl
theorem mk5 : mkspec 5 [5] = .err 62 := rfl
theorem nine_bits : ∀ e : Fin 64, Nat.testBit 9 e.1 = (decide (e.1 < 5) && f303 e.1) := by decide
theorem nine : Ws [9] 5 f303 := by
  refine ⟨rfl, fun j => ?_, fun e => ?_⟩
  · cases j with
    | zero => decide
    | succ j => rw [wd_ge (by simp)]; decide
  · by_cases he : e < 64
    · have := nine_bits ⟨e, he⟩
      unfold mem
      rw [show e / 64 = 0 from by omega, show e % 64 = e from by omega]
      exact this
    · rw [mem_ge (by simp; omega)]
      have : ¬ e < 5 := by omega
      simp [this]
theorem rdI_block {w : World} {g : Nat} {zs : List Int} {t : TypeId} (h : w.heap[g]? = some (.cells (encI zs).toArray t (0, 0))) : RdI w (some ⟨g, 0, none⟩) zs := by
  intro j hj
  refine ⟨g, 0, rfl, blk_lt h, ?_⟩
  rw [Nat.zero_add, cell_of_row w g j _ _ _ h, List.getElem?_toArray, zd_lt hj]
  simp [encI, hj]
set_option maxRecDepth 100000 in
set_option maxHeartbeats 4000000 in
theorem alive_any (w : World) : Calls Try.prog 18 #[] w fun x w' => x = .returned (.bool true) ∧ Below w.heap.size w w' := by
  have h1 := make_any 5 (some ⟨w.heap.size, 0, none⟩) 3 [3, 0, 3] (w.alloc (.cells #[.int .i64 3, .int .i64 0, .int .i64 3] 3)) (rdI_block (ha_new _ _ _ rfl)) (by decide)
  have H1 := Lib.hid h1
  clear h1
  have hbl0 := bl_a (Below.refl w.heap.size w) (.cells #[.int .i64 3, .int .i64 0, .int .i64 3] 3)
  go_enter Try.func18, Try.ntmps18
  go_wp2_with fail
  refine H1.out.mono ?_
  rw [mk303]
  rintro x w1 ⟨hb1, g, ws, rfl, hg0, hwb, hws⟩
  obtain rfl : ws = [9] := hws.unique nine (fun _ _ => rfl)
  have hbl1 := bl_t hbl0 hb1
  have H2 := Lib.hid (make_any 5 (some ⟨w1.heap.size + 1, 0, none⟩) 1 [5] ((w1.alloc (.cells #[.int .i64 5, .slice (some ⟨g, 0, none⟩) 1 1] 24)).alloc (.cells #[.int .i64 5] 3)) (rdI_block (ha_new _ _ _ (by simp))) (by decide))
  have hs1 := ha_new w1 (.cells #[.int .i64 5, .slice (some ⟨g, 0, none⟩) 1 1] 24) w1.heap.size rfl
  have hs2 := (ha_old (w1.alloc (.cells #[.int .i64 5, .slice (some ⟨g, 0, none⟩) 1 1] 24)) (.cells #[.int .i64 5] 3) w1.heap.size (by simp)).trans hs1
  have hbl2 := bl_a (bl_a hbl1 (.cells #[.int .i64 5, .slice (some ⟨g, 0, none⟩) 1 1] 24)) (.cells #[.int .i64 5] 3)
  have hwb2 := (hwb.alloc (.cells #[.int .i64 5, .slice (some ⟨g, 0, none⟩) 1 1] 24)).alloc (.cells #[.int .i64 5] 3)
  go_wp2_with fail
  refine H2.out.mono ?_
  rw [mk5]
  rintro x w2 ⟨hb2, rfl⟩
  have hs3 := (ha_old w2 (.cells #[.int .i64 0, .slice none 0 0] 24) _ (blk_lt ((hb2.block _ (blk_lt hs2)).trans hs2))).trans ((hb2.block _ (blk_lt hs2)).trans hs2)
  have hwb3 := (hwb2.below hb2).alloc (.cells #[.int .i64 0, .slice none 0 0] 24)
  obtain ⟨p0, p1, f0, f1, hg1⟩ := blk2 hs3
  have hcell : (w2.alloc (.cells #[.int .i64 0, .slice none 0 0] 24)).cell? ⟨g, 0, none⟩ = some (.int .u64 9) := hwb3.cell (j := 0) (by decide)
  go_wp2_with (go_at_call 10; refine (num_any _ _).mono ?_; rintro e' w' ⟨rfl, rfl⟩)
  go_ret
  exact ⟨rfl, bl_a (bl_t hbl2 hb2) _⟩
end Go.Proofs.Ytlmjfcieiengcaa
