/- bitset.Count and bitset.Has. The words are words; the length is one that a slice can have. -/
import Derived.Test.YtlmjfcieiengcaaDoorOnes
import Derived.Test.YtlmjfcieiengcaaDoorAnswer
namespace Go.Proofs.YtlmjfcieiengcaaDoor
open Go.RowKit
noncomputable def cn (sz : Int) (ws : List Nat) : Nat := if mayB sz ws = true then cnt ws sz.toNat else 0
theorem MayP.low {sz : Int} {ws : List Nat} (h : MayP sz ws) (hlt : ∀ j, wd ws j < 18446744073709551616) {e : Nat} (he : mem ws e = true) : e < sz.toNat := by
  have h1 := (h.ws hlt).has e
  rw [he] at h1
  simp at h1
  omega
theorem cnt_all {sz : Int} {ws : List Nat} (h : MayP sz ws) (hlt : ∀ j, wd ws j < 18446744073709551616) : cnt ws (64 * ws.length) = cnt ws sz.toNat := by
  refine cnt_skip (by have := h.2.2.1; rw [this, nw_eq]; omega) fun e h1 _ => ?_
  cases hm : mem ws e with
  | false => rfl
  | true => have := h.low hlt hm; omega
theorem cn_le (sz : Int) (ws : List Nat) : cn sz ws ≤ 4096 := by
  unfold cn
  split
  · rename_i h
    have h1 := (mayP_of h).2.1
    have h2 := cnt_le ws sz.toNat
    omega
  · omega
set_option maxHeartbeats 4000000 in
theorem count_any (sz : Int) (A : Option Addr) (c : Nat) (ws : List Nat) (w : World) (hr : Rd w A ws) (hlt : ∀ j, wd ws j < 18446744073709551616) (hl : ws.length ≤ 9223372036854775807) :
    Calls Tryd.prog 32 #[.agg #[.int .i64 sz, .slice A ws.length c]] w fun x w' => x = .returned (.int .i64 (cn sz ws : Nat)) ∧ Below w.heap.size w w' := by
  have HMAY := Lib.hid (fun W hW => may_any sz A c ws W hW hlt hl)
  have hbl0 := bl_a (Below.refl w.heap.size w) (.cells #[.int .i64 sz, .slice A ws.length c] 24)
  have hbx0 : (w.alloc (.cells #[.int .i64 sz, .slice A ws.length c] 24)).heap[w.heap.size]? = some (.cells #[.int .i64 sz, .slice A ws.length c] 24 (0, 0)) := ha_new _ _ _ rfl
  cases hm : mayB sz ws with
  | false =>
    have HP : Hid (cn sz ws = 0) := by unfold Hid cn; rw [hm]; rfl
    have HM := Lib.hid hm
    clear hm
    go_enter Tryd.func32, Tryd.ntmps32
    go_wp2_with fail
    refine (HMAY.out _ (hr.below hbl0)).mono ?_
    rw [HM.out]
    rintro x w1 ⟨rfl, hb1⟩
    go_wp2
    go_ret
    rw [HP.out]
    exact ⟨rfl, bl_t hbl0 hb1⟩
  | true =>
    have hmp := mayP_of hm
    have HP : Hid (cn sz ws = cnt ws (64 * ws.length)) := by unfold Hid cn; rw [hm, cnt_all hmp hlt]; rfl
    have hl2 : ws.length ≤ 64 := by have := hmp.2.2.1; have := hmp.2.1; rw [nw_eq] at *; omega
    have HM := Lib.hid hm
    clear hm hmp
    go_enter Tryd.func32, Tryd.ntmps32
    go_wp2_with fail
    refine (HMAY.out _ (hr.below hbl0)).mono ?_
    rw [HM.out]
    rintro x w1 ⟨rfl, hb1⟩
    have hbx1 := (hb1.block _ (blk_lt hbx0)).trans hbx0
    obtain ⟨p0, p1, f0, f1, hg⟩ := blk2 hbx1
    have hbl1 := bl_t hbl0 hb1
    go_wp2
    go_loop [3, 12] (fun n i => ∃ j : Nat, j ≤ ws.length ∧ i = .int .i64 j ∧ n = .int .i64 (cnt ws (64 * j) : Nat)) (fun _ i => ws.length - (intOf i).toNat)
    case atStart => exact ⟨0, Nat.zero_le _, rfl, rfl⟩
    case round =>
      obtain ⟨j, hjk, rfl, rfl⟩ := hrel
      by_cases hlt2 : j < ws.length
      · obtain ⟨b, off, rfl, hblt, hcell⟩ := hr j (by omega)
        have hcz := (hbl1.cell (p := ⟨b, off + j, none⟩) hblt).trans hcell
        have hbw : b < w1.heap.size := Nat.lt_of_lt_of_le hblt hbl1.size
        obtain ⟨Y, hY⟩ : ∃ Y, Y = wd ws j := ⟨_, rfl⟩
        have hY64 : Y < 18446744073709551616 := by rw [hY]; exact hlt _
        rw [← hY] at hcz
        have hn := cnt_next ws j
        rw [← hY] at hn
        have HN := Lib.hid hn
        have hb1' := pop64_le Y
        have hb2' := cnt_le ws (64 * j)
        clear hY hcell hn
        go_wp2_with (go_at_call 74; refine (oc_any Y hY64 _).mono ?_; rintro e' w' ⟨rfl, rfl⟩)
        go_round
        case rel => exact ⟨j + 1, by omega, by go_num, by rw [HN.out]; go_num⟩
        case measure => simp [intOf]; omega
      · obtain rfl : j = ws.length := by omega
        go_wp2
        go_ret
        exact ⟨by rw [HP.out]; rfl, hbl1⟩
/-- is e in the set? -/
noncomputable def hasB (sz : Int) (ws : List Nat) (e : Int) : Bool := mayB sz ws && (inB e sz && mem ws e.toNat)
set_option maxHeartbeats 4000000 in
theorem hass_any (sz e : Int) (A : Option Addr) (c : Nat) (ws : List Nat) (w : World) (hr : Rd w A ws) (hlt : ∀ j, wd ws j < 18446744073709551616) (hl : ws.length ≤ 9223372036854775807) :
    Calls Tryd.prog 33 #[.agg #[.int .i64 sz, .slice A ws.length c], .int .i64 e] w fun x w' => x = .returned (.bool (hasB sz ws e)) ∧ Below w.heap.size w w' := by
  have HMAY := Lib.hid (fun W hW => may_any sz A c ws W hW hlt hl)
  have hbl0 := bl_a (Below.refl w.heap.size w) (.cells #[.int .i64 sz, .slice A ws.length c] 24)
  have hbx0 : (w.alloc (.cells #[.int .i64 sz, .slice A ws.length c] 24)).heap[w.heap.size]? = some (.cells #[.int .i64 sz, .slice A ws.length c] 24 (0, 0)) := ha_new _ _ _ rfl
  cases hm : mayB sz ws with
  | false =>
    have HP : Hid (hasB sz ws e = false) := by unfold Hid hasB; rw [hm]; rfl
    have HM := Lib.hid hm
    clear hm
    go_enter Tryd.func33, Tryd.ntmps33
    go_wp2_with fail
    refine (HMAY.out _ (hr.below hbl0)).mono ?_
    rw [HM.out]
    rintro x w1 ⟨rfl, hb1⟩
    go_wp2
    go_ret
    rw [HP.out]
    exact ⟨rfl, bl_t hbl0 hb1⟩
  | true =>
    have hmp := mayP_of hm
    have HM := Lib.hid hm
    cases hi : inB e sz with
    | false =>
      have HP : Hid (hasB sz ws e = false) := by unfold Hid hasB; rw [hm, hi]; rfl
      have HWI := Lib.hid (fun W => within_any sz e (.slice A ws.length c) W)
      have HI := Lib.hid hi
      clear hm hmp hi
      go_enter Tryd.func33, Tryd.ntmps33
      go_wp2_with fail
      refine (HMAY.out _ (hr.below hbl0)).mono ?_
      rw [HM.out]
      rintro x w1 ⟨rfl, hb1⟩
      obtain ⟨p0, p1, f0, f1, hg⟩ := blk2 ((hb1.block _ (blk_lt hbx0)).trans hbx0)
      go_wp2_with fail
      refine (HWI.out _).mono ?_
      rw [HI.out]
      rintro x w2 ⟨rfl, hb2⟩
      go_wp2
      go_ret
      rw [HP.out]
      exact ⟨rfl, bl_t (bl_t hbl0 hb1) hb2⟩
    | true =>
      obtain ⟨E, rfl⟩ : ∃ E : Nat, e = E := ⟨e.toNat, by unfold inB at hi; simp at hi; omega⟩
      have hEl : E / 64 < ws.length := by have h1 := hmp.2.2.1; unfold inB at hi; simp at hi; rw [h1, nw_eq]; omega
      have hl2 : ws.length ≤ 65536 := by have := hmp.2.2.1; have := hmp.2.1; rw [nw_eq] at *; omega
      have HP : Hid (hasB sz ws E = mem ws E) := by unfold Hid hasB; rw [hm, hi]; simp
      have HWI := Lib.hid (fun W => within_any sz E (.slice A ws.length c) W)
      have HHA := Lib.hid (fun W hW => has_any sz A c E ws W hW hlt hEl hl2)
      have HI := Lib.hid hi
      clear hm hmp hi hEl
      go_enter Tryd.func33, Tryd.ntmps33
      go_wp2_with fail
      refine (HMAY.out _ (hr.below hbl0)).mono ?_
      rw [HM.out]
      rintro x w1 ⟨rfl, hb1⟩
      obtain ⟨p0, p1, f0, f1, hg⟩ := blk2 ((hb1.block _ (blk_lt hbx0)).trans hbx0)
      go_wp2_with fail
      refine (HWI.out _).mono ?_
      rw [HI.out]
      rintro x w2 ⟨rfl, hb2⟩
      have hbl2 := bl_t (bl_t hbl0 hb1) hb2
      have hbx2 := (hb2.block _ hg).trans ((hb1.block _ (blk_lt hbx0)).trans hbx0)
      clear p0 p1 f0 f1 hg
      obtain ⟨p0, p1, f0, f1, hg⟩ := blk2 hbx2
      go_wp2_with fail
      refine (HHA.out _ (hr.below hbl2)).mono ?_
      rintro x w3 ⟨rfl, hb3⟩
      go_wp2
      go_ret
      rw [HP.out]
      exact ⟨rfl, bl_t hbl2 hb3⟩
end Go.Proofs.YtlmjfcieiengcaaDoor
