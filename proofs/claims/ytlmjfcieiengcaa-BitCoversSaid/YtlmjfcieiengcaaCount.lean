/- bitset.Count and bitset.Has. The words are words; the length is one that a slice can have. -/
import Derived.Test.YtlmjfcieiengcaaOnes
import Derived.Test.YtlmjfcieiengcaaAnswer
namespace Go.Proofs.Ytlmjfcieiengcaa
open Go.RowKit
noncomputable def cn (sz : Int) (ws : List Nat) : Nat := if mayB sz ws = true then cnt ws sz.toNat else 0
theorem MayP.low {sz : Int} {ws : List Nat} (h : MayP sz ws) (hlt : ∀ j, wd ws j < 18446744073709551616) {e : Nat} (he : mem ws e = true) : e < sz.toNat := by
  have h1 := (h.ws hlt).has e
  rw [he] at h1
  simp at h1
  omega
theorem cnt_all {sz : Int} {ws : List Nat} (h : MayP sz ws) (hlt : ∀ j, wd ws j < 18446744073709551616) : cnt ws (64 * ws.length) = cnt ws sz.toNat := by
  refine cnt_skip (by have := h.2.2.1; rw [this, nw_eq]; omega) fun e h1 _ => ?_
  cases hm : mem ws e with
  | false => rfl
  | true => have := h.low hlt hm; omega
theorem cn_le (sz : Int) (ws : List Nat) : cn sz ws ≤ 4096 := by
  unfold cn
  split
  · rename_i h
    have h1 := (mayP_of h).2.1
    have h2 := cnt_le ws sz.toNat
    omega
  · omega
/-- how many numbers below k are so -/
def cntb (f : Nat → Bool) : Nat → Nat
  | 0 => 0
  | k + 1 => cntb f k + (if f k then 1 else 0)
theorem cntb_congr {f g : Nat → Bool} {n : Nat} (h : ∀ e, e < n → f e = g e) : cntb f n = cntb g n := by
  induction n with
  | zero => rfl
  | succ n ih => rw [cntb, cntb, ih fun e he => h e (by omega), h n (by omega)]
theorem cnt_cntb (ws : List Nat) : ∀ n, cnt ws n = cntb (mem ws) n := by
  intro n
  induction n with
  | zero => rfl
  | succ n ih => rw [cnt, cntb, ih]
set_option maxHeartbeats 4000000 in
theorem count_any (sz : Int) (A : Option Addr) (c : Nat) (ws : List Nat) (w : World) (hr : Rd w A ws) (hlt : ∀ j, wd ws j < 18446744073709551616) (hl : ws.length ≤ 9223372036854775807) :
    Calls Try.prog 24 #[.agg #[.int .i64 sz, .slice A ws.length c]] w fun x w' => x = .returned (.int .i64 (cn sz ws : Nat)) ∧ Below w.heap.size w w' := by
  have HMAY := Lib.hid (fun W hW => may_any sz A c ws W hW hlt hl)
  have hbl0 := bl_a (Below.refl w.heap.size w) (.cells #[.int .i64 sz, .slice A ws.length c] 24)
  have hbx0 : (w.alloc (.cells #[.int .i64 sz, .slice A ws.length c] 24)).heap[w.heap.size]? = some (.cells #[.int .i64 sz, .slice A ws.length c] 24 (0, 0)) := ha_new _ _ _ rfl
  cases hm : mayB sz ws with
  | false =>
    have HP : Hid (cn sz ws = 0) := by unfold Hid cn; rw [hm]; rfl
    have HM := Lib.hid hm
    clear hm
    go_enter Try.func24, Try.ntmps24
    go_wp2_with fail
    refine (HMAY.out _ (hr.below hbl0)).mono ?_
    rw [HM.out]
    rintro x w1 ⟨rfl, hb1⟩
    go_wp2
    go_ret
    rw [HP.out]
    exact ⟨rfl, bl_t hbl0 hb1⟩
  | true =>
    have hmp := mayP_of hm
    have HP : Hid (cn sz ws = cnt ws (64 * ws.length)) := by unfold Hid cn; rw [hm, cnt_all hmp hlt]; rfl
    have hl2 : ws.length ≤ 64 := by have := hmp.2.2.1; have := hmp.2.1; rw [nw_eq] at *; omega
    have HM := Lib.hid hm
    clear hm hmp
    go_enter Try.func24, Try.ntmps24
    go_wp2_with fail
    refine (HMAY.out _ (hr.below hbl0)).mono ?_
    rw [HM.out]
    rintro x w1 ⟨rfl, hb1⟩
    have hbx1 := (hb1.block _ (blk_lt hbx0)).trans hbx0
    obtain ⟨p0, p1, f0, f1, hg⟩ := blk2 hbx1
    have hbl1 := bl_t hbl0 hb1
    go_wp2
    go_loop [3, 12] (fun n i => ∃ j : Nat, j ≤ ws.length ∧ i = .int .i64 j ∧ n = .int .i64 (cnt ws (64 * j) : Nat)) (fun _ i => ws.length - (intOf i).toNat)
    case atStart => exact ⟨0, Nat.zero_le _, rfl, rfl⟩
    case round =>
      obtain ⟨j, hjk, rfl, rfl⟩ := hrel
      by_cases hlt2 : j < ws.length
      · obtain ⟨b, off, rfl, hblt, hcell⟩ := hr j (by omega)
        have hcz := (hbl1.cell (p := ⟨b, off + j, none⟩) hblt).trans hcell
        have hbw : b < w1.heap.size := Nat.lt_of_lt_of_le hblt hbl1.size
        obtain ⟨Y, hY⟩ : ∃ Y, Y = wd ws j := ⟨_, rfl⟩
        have hY64 : Y < 18446744073709551616 := by rw [hY]; exact hlt _
        rw [← hY] at hcz
        have hn := cnt_next ws j
        rw [← hY] at hn
        have HN := Lib.hid hn
        have hb1' := pop64_le Y
        have hb2' := cnt_le ws (64 * j)
        clear hY hcell hn
        go_wp2_with (go_at_call 54; refine (oc_any Y hY64 _).mono ?_; rintro e' w' ⟨rfl, rfl⟩)
        go_round
        case rel => exact ⟨j + 1, by omega, by go_num, by rw [HN.out]; go_num⟩
        case measure => simp [intOf]; omega
      · obtain rfl : j = ws.length := by omega
        go_wp2
        go_ret
        exact ⟨by rw [HP.out]; rfl, hbl1⟩
end Go.Proofs.Ytlmjfcieiengcaa
