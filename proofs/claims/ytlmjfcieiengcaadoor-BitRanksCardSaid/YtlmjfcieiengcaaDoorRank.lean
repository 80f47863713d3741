/- bitset.Rank: how many elements are below. The words are words; the length is one that a slice can have. -/
import Derived.Test.YtlmjfcieiengcaaDoorOnes
import Derived.Test.YtlmjfcieiengcaaDoorTz
import Derived.Deep.DeepCutAuto
namespace Go.Proofs.YtlmjfcieiengcaaDoor
open Go.RowKit
/-- e brought into 0 .. n -/
def clp (e : Int) (n : Nat) : Nat := (min (max e 0) (n : Int)).toNat
noncomputable def rk (sz : Int) (ws : List Nat) (e : Int) : Nat := if mayB sz ws = true then cnt ws (clp e sz.toNat) else 0
theorem cut_hA {P : Program} (t e : TypeId) {i : TypeInfo} (ht : P.underlying t = some (.slice e)) (hi : P.info? e = some i) (A : Option Addr) (n c m : Nat) (hc : m ≤ c) (W : World) :
    (Instr.slice t (.slice A n c) none (some (.int .i64 m)) none).run P W = .ok (.slice A m c) W := by
  have hel : P.elem t = e := by simp [Program.elem, ht]
  have hu : P.underlying t = some (.slice (P.elem t)) := by rw [hel]; exact ht
  rw [run_slice_h W t A n c hu .i64 m (by omega) (by omega), hel]
  cases A <;> simp [sizeOf, typeInfo, hi, sliced, Result.andThen, Addr.add]
set_option maxRecDepth 100000 in
set_option maxHeartbeats 1000000 in
theorem rank_any (sz e : Int) (A : Option Addr) (c : Nat) (ws : List Nat) (w : World) (hr : Rd w A ws) (hlt : ∀ j, wd ws j < 18446744073709551616) (hl : ws.length ≤ 9223372036854775807) (hc : ws.length ≤ c) :
    Calls Tryd.prog 24 #[.agg #[.int .i64 sz, .slice A ws.length c], .int .i64 e] w fun x w' => x = .returned (.int .i64 (rk sz ws e : Nat)) ∧ Below w.heap.size w w' := by
  have HMAY := Lib.hid (fun W hW => may_any sz A c ws W hW hlt hl)
  have hbl0 := bl_a (Below.refl w.heap.size w) (.cells #[.int .i64 sz, .slice A ws.length c] 24)
  have hbx0 : (w.alloc (.cells #[.int .i64 sz, .slice A ws.length c] 24)).heap[w.heap.size]? = some (.cells #[.int .i64 sz, .slice A ws.length c] 24 (0, 0)) := ha_new _ _ _ rfl
  cases hm : mayB sz ws with
  | false =>
    have HP : Hid (rk sz ws e = 0) := by unfold Hid rk; rw [hm]; rfl
    have HM := Lib.hid hm
    clear hm
    go_enter Tryd.func24, Tryd.ntmps24
    go_wp2_with fail
    refine (HMAY.out _ (hr.below hbl0)).mono ?_
    rw [HM.out]
    rintro x w1 ⟨rfl, hb1⟩
    go_wp2
    go_ret
    rw [HP.out]
    exact ⟨rfl, bl_t hbl0 hb1⟩
  | true =>
    have hmp : MayP sz ws := by
      have := hm
      unfold mayB at this
      simpa using this
    obtain ⟨s, rfl⟩ : ∃ s : Nat, sz = s := ⟨sz.toNat, by have := hmp.1; omega⟩
    have hs4 : s ≤ 4096 := by have := hmp.2.1; omega
    have hwl : ws.length = nw s := by have := hmp.2.2.1; simpa using this
    have HWL := Lib.hid hwl
    have hl2 : ws.length ≤ 64 := by rw [hwl, nw_eq]; omega
    obtain ⟨q, hq⟩ : ∃ q, q = clp e s := ⟨_, rfl⟩
    have hqs : q ≤ s := by rw [hq]; unfold clp; omega
    have HP : Hid (rk s ws e = cnt ws q) := by unfold Hid rk; rw [hm, hq]; rfl
    obtain ⟨X, hX⟩ : ∃ X : Int, (if e < 0 then 0 else e) = X := ⟨_, rfl⟩
    have hXq : (s : Int) < X ∧ q = s ∨ X ≤ (s : Int) ∧ X = (q : Int) := by
      rw [hq]
      unfold clp
      split at hX <;> omega
    have HXQ := Lib.hid hXq
    clear hXq
    have HM := Lib.hid hm
    obtain ⟨i0, hi, hz0, hz1, hz2⟩ := info_parts' info_u64
    obtain ⟨k, hk⟩ : ∃ k, k = q / 64 := ⟨_, rfl⟩
    have hkl : k ≤ ws.length := by rw [hwl, nw_eq]; omega
    have hqk : (q : Int) / 64 = (k : Int) := by omega
    have hsl : ∀ W : World, (Instr.slice 22 (.slice A ws.length c) none (some (.int .i64 ((q : Int) / 64))) none).run Tryd.prog W = .ok (.slice A k c) W := by
      rw [hqk]
      exact cut_hA _ _ Tryd.underlying22 hi A ws.length c k (by omega)
    have HK := Lib.hid hk
    clear hm hmp hq hwl hk hqk hz0 hz1 hz2
    go_enter Tryd.func24, Tryd.ntmps24
    go_wp2_with fail
    refine (HMAY.out _ (hr.below hbl0)).mono ?_
    rw [HM.out]
    rintro x w1 ⟨rfl, hb1⟩
    have hbx1 := (hb1.block _ (blk_lt hbx0)).trans hbx0
    obtain ⟨p0, p1, f0, f1, hg⟩ := blk2 hbx1
    go_upto_region 4 with (fail)
    go_cut [1, 5] (fun v n wx => v = .int .i64 (q : Nat) ∧ n = .int .i64 0 ∧ w1 = wx)
    case first =>
      rcases HXQ.out with ⟨h1, h2⟩ | ⟨h1, h2⟩
      · subst h2
        go_wp2
        go_meet
        exact ⟨rfl, rfl, rfl⟩
      · subst h2
        go_wp2
        go_meet
        exact ⟨rfl, rfl, rfl⟩
    case rest =>
    obtain ⟨rfl, rfl, rfl⟩ := hcut
    clear hX
    have hbl1 := bl_t hbl0 hb1
    go_wp2
    go_loop [5, 22] (fun n i => ∃ j : Nat, j ≤ k ∧ i = .int .i64 j ∧ n = .int .i64 (cnt ws (64 * j) : Nat)) (fun _ i => k - (intOf i).toNat)
    case atStart => exact ⟨0, Nat.zero_le _, rfl, rfl⟩
    case round =>
      obtain ⟨j, hjk, rfl, rfl⟩ := hrel
      by_cases hlt2 : j < k
      · obtain ⟨b, off, rfl, hblt, hcell⟩ := hr j (by omega)
        have hcz := (hbl1.cell (p := ⟨b, off + j, none⟩) hblt).trans hcell
        have hbw : b < w1.heap.size := Nat.lt_of_lt_of_le hblt hbl1.size
        obtain ⟨Y, hY⟩ : ∃ Y, Y = wd ws j := ⟨_, rfl⟩
        have hY64 : Y < 18446744073709551616 := by rw [hY]; exact hlt _
        rw [← hY] at hcz
        have hn := cnt_next ws j
        rw [← hY] at hn
        have HN := Lib.hid hn
        have hb1' := pop64_le Y
        have hb2' := cnt_le ws (64 * j)
        clear hY hcell hn
        go_wp2_with (go_at_call 74; refine (oc_any Y hY64 _).mono ?_; rintro e' w' ⟨rfl, rfl⟩)
        go_round
        case rel => exact ⟨j + 1, by omega, by go_num, by rw [HN.out]; go_num⟩
        case measure => simp [intOf]; omega
      · obtain rfl : j = k := by omega
        have hk := HK.out
        by_cases hz : q % 64 = 0
        · have hz1 : (((q % 64 : Nat) : Int) != 0) = false := by rw [hz]; rfl
          have hqe : q = 64 * j := by omega
          have HQ := Lib.hid hqe
          clear hqe hz hk
          go_wp2
          go_ret
          exact ⟨by rw [HP.out, HQ.out]; rfl, hbl1⟩
        · have hz1 : (((q % 64 : Nat) : Int) != 0) = true := by rw [bne_iff_ne]; omega
          go_wp2
          have hjl : j < ws.length := by rw [HWL.out, nw_eq]; omega
          obtain ⟨b, off, rfl, hblt, hcell⟩ := hr j hjl
          have hcz := (hbl1.cell (p := ⟨b, off + j, none⟩) hblt).trans hcell
          have hbw : b < w1.heap.size := Nat.lt_of_lt_of_le hblt hbl1.size
          obtain ⟨Y, hY⟩ : ∃ Y, Y = wd ws j := ⟨_, rfl⟩
          have hY64 : Y < 18446744073709551616 := by rw [hY]; exact hlt _
          rw [← hY] at hcz
          have hn := cnt_part ws j (q % 64) (by omega)
          rw [← hY, show 64 * j + q % 64 = q from by omega] at hn
          obtain ⟨Z, hZ⟩ : ∃ Z, Z = Y &&& (2 ^ (q % 64) - 1) := ⟨_, rfl⟩
          rw [← hZ] at hn
          have HN := Lib.hid hn
          have hZ64 : Z < 18446744073709551616 := by rw [hZ]; exact Nat.lt_of_le_of_lt Nat.and_le_left hY64
          have hand : bits .and .u64 (Y : Int) (IntKind.u64.wrap (IntKind.u64.wrap (2 ^ (q % 64)) - 1)) = (Z : Int) := by
            have h3 := pow_lt64 q
            have h4 : 0 < 2 ^ (q % 64) := Nat.two_pow_pos _
            rw [wrap_pow, show ((2 ^ (q % 64) : Nat) : Int) - 1 = ((2 ^ (q % 64) - 1 : Nat) : Int) from by omega, u64_wrap_nat _ (by omega), u64_and_nat _ _ hY64 (by omega), ← hZ]
          have HAND := Lib.hid hand
          have hb1' := pop64_le Z
          have hb2' := cnt_le ws (64 * j)
          have hqk : ((q : Int) / 64) = (j : Int) := by omega
          have hqj : q / 64 = j := by omega
          clear hY hcell hn hZ hk hz hand
          go_quiet ((go_at_call 74; rw [HAND.out]; exact (oc_any Z hZ64 _).mono fun _ _ h => ⟨h.1, _, h.2.symm⟩))
          trace_state
          go_wp2
          go_ret
          exact ⟨by rw [HP.out, HN.out]; go_num, bl_dn hbl1 _⟩
end Go.Proofs.YtlmjfcieiengcaaDoor
