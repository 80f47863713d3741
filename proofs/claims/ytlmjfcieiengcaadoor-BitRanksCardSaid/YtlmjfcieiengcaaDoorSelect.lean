/- bitset.Select: the element with so many below it. The words are words; the length is one that a slice can have; the table of math/bits lies in its variable. -/
import Derived.Test.YtlmjfcieiengcaaDoorRank
namespace Go.Proofs.YtlmjfcieiengcaaDoor
open Go.RowKit
def oI : Option Nat → Int
  | some e => (e : Int)
  | none => -1
noncomputable def sel (sz : Int) (ws : List Nat) (k : Int) : Int := if mayB sz ws = true ∧ 0 ≤ k then oI (nth ws k.toNat sz.toNat) else -1
theorem nth_bound {ws : List Nat} {k s N : Nat} (h : ∀ e, mem ws e = true → e < s) (hN : s ≤ N) : nth ws k N = nth ws k s := by
  cases hs : nth ws k s with
  | some e =>
    obtain ⟨h1, h2, h3⟩ := nth_some hs
    exact nth_eq (by omega) h2 h3
  | none =>
    cases hn : nth ws k N with
    | none => rfl
    | some e =>
      obtain ⟨h1, h2, h3⟩ := nth_some hn
      exact absurd h3 (nth_none hs e (h e h2) h2)
/-- V holds the numbers from t on of the j-th word -/
structure Low (ws : List Nat) (j t V : Nat) : Prop where
  lo : 64 * j ≤ t
  hi : t ≤ 64 * j + 64
  lt : V < 18446744073709551616
  bit : ∀ i, i < 64 → V.testBit i = ((wd ws j).testBit i && decide (t ≤ 64 * j + i))
theorem Low.start (ws : List Nat) (j : Nat) (h : wd ws j < 18446744073709551616) : Low ws j (64 * j) (wd ws j) :=
  ⟨Nat.le_refl _, by omega, h, fun i _ => by simp⟩
theorem Low.mem {ws : List Nat} {j t V e : Nat} (h : Low ws j t V) (h1 : t ≤ e) (h2 : e < 64 * j + 64) : mem ws e = V.testBit (e - 64 * j) := by
  have h3 := h.lo
  have h4 := h.bit (e - 64 * j) (by omega)
  have h5 : t ≤ 64 * j + (e - 64 * j) := by omega
  rw [h4]
  simp only [h5, decide_true, Bool.and_true]
  unfold Go.Proofs.YtlmjfcieiengcaaDoor.mem
  rw [show e / 64 = j from by omega, show e % 64 = e - 64 * j from by omega]
theorem Low.zero {ws : List Nat} {j t : Nat} (h : Low ws j t 0) : ∀ e, t ≤ e → e < 64 * j + 64 → Go.Proofs.YtlmjfcieiengcaaDoor.mem ws e = false := by
  intro e h1 h2
  rw [h.mem h1 h2, Nat.zero_testBit]
theorem Low.step {ws : List Nat} {j t V : Nat} (h : Low ws j t V) (h0 : V ≠ 0) :
    ∃ p, p = Lib.ctz 64 V ∧ p < 64 ∧ t ≤ 64 * j + p ∧ Go.Proofs.YtlmjfcieiengcaaDoor.mem ws (64 * j + p) = true ∧ (∀ e, t ≤ e → e < 64 * j + p → Go.Proofs.YtlmjfcieiengcaaDoor.mem ws e = false) ∧ Low ws j (64 * j + p + 1) (V &&& (V - 1)) ∧ (V &&& (V - 1)) < V := by
  obtain ⟨hp64, hpt, hpl, hpn⟩ := ctz_spec V h0 h.lt
  obtain ⟨p, hp⟩ : ∃ p, p = Lib.ctz 64 V := ⟨_, rfl⟩
  rw [← hp] at hp64 hpt hpl hpn
  have hlo := h.lo
  have hte : t ≤ 64 * j + p := by
    have h3 := h.bit p hp64
    rw [hpt] at h3
    by_cases hh : t ≤ 64 * j + p
    · exact hh
    · simp [hh] at h3
  refine ⟨p, hp, hp64, hte, ?_, ?_, ⟨by omega, by omega, Nat.lt_of_le_of_lt Nat.and_le_left h.lt, ?_⟩, Nat.lt_of_le_of_lt Nat.and_le_right (by omega)⟩
  · rw [h.mem hte (by omega), show 64 * j + p - 64 * j = p from by omega]
    exact hpt
  · intro e h1 h2
    rw [h.mem h1 (by omega)]
    exact hpl _ (by omega)
  · intro i hi
    rw [hpn i, h.bit i hi]
    by_cases h1 : i = p
    · subst h1
      have : ¬ 64 * j + i + 1 ≤ 64 * j + i := by omega
      simp [this]
    · by_cases h2 : i < p
      · have h3 := hpl i h2
        rw [h.bit i hi] at h3
        have : ¬ 64 * j + p + 1 ≤ 64 * j + i := by omega
        simp [this, h1]
        intro h4
        rw [h4] at h3
        simpa using h3
      · have h4 : t ≤ 64 * j + i := by omega
        have h5 : 64 * j + p + 1 ≤ 64 * j + i := by omega
        simp [h1, h4, h5]
set_option maxRecDepth 100000 in
set_option maxHeartbeats 4000000 in
theorem select_any (sz k : Int) (A : Option Addr) (c : Nat) (ws : List Nat) (w : World) (hr : Rd w A ws) (hlt : ∀ j, wd ws j < 18446744073709551616) (hl : ws.length ≤ 9223372036854775807) (hT : TabOk w) (hk63 : k ≤ 9223372036854775807) :
    Calls Tryd.prog 26 #[.agg #[.int .i64 sz, .slice A ws.length c], .int .i64 k] w fun x w' => x = .returned (.int .i64 (sel sz ws k)) ∧ Below w.heap.size w w' := by
  have HMAY := Lib.hid (fun W hW => may_any sz A c ws W hW hlt hl)
  have hbl0 := bl_a (Below.refl w.heap.size w) (.cells #[.int .i64 sz, .slice A ws.length c] 24)
  have hbx0 : (w.alloc (.cells #[.int .i64 sz, .slice A ws.length c] 24)).heap[w.heap.size]? = some (.cells #[.int .i64 sz, .slice A ws.length c] 24 (0, 0)) := ha_new _ _ _ rfl
  cases hm : mayB sz ws with
  | false =>
    have HP : Hid (sel sz ws k = -1) := by unfold Hid sel; rw [hm]; simp
    have HM := Lib.hid hm
    clear hm
    go_enter Tryd.func26, Tryd.ntmps26
    go_wp2_with fail
    refine (HMAY.out _ (hr.below hbl0)).mono ?_
    rw [HM.out]
    rintro x w1 ⟨rfl, hb1⟩
    go_wp2
    go_ret
    rw [HP.out]
    exact ⟨rfl, bl_t hbl0 hb1⟩
  | true =>
    have hmp : MayP sz ws := by
      have := hm
      unfold mayB at this
      simpa using this
    obtain ⟨s, rfl⟩ : ∃ s : Nat, sz = s := ⟨sz.toNat, by have := hmp.1; omega⟩
    have HM := Lib.hid hm
    by_cases hk0 : 0 ≤ k
    · obtain ⟨K, rfl⟩ : ∃ K : Nat, k = K := ⟨k.toNat, by omega⟩
      have hs4 : s ≤ 4096 := by have := hmp.2.1; omega
      have hwl : ws.length = nw s := by have := hmp.2.2.1; simpa using this
      have hl2 : ws.length ≤ 64 := by rw [hwl, nw_eq]; omega
      have hlow : ∀ e, Go.Proofs.YtlmjfcieiengcaaDoor.mem ws e = true → e < s := by
        intro e he
        have h1 := (hmp.ws hlt).has e
        rw [he] at h1
        simp at h1
        exact h1
      have hsl : s ≤ 64 * ws.length := by rw [hwl, nw_eq]; omega
      have HP : Hid (sel s ws K = oI (nth ws K (64 * ws.length))) := by
        unfold Hid sel
        rw [if_pos ⟨hm, by omega⟩, nth_bound hlow hsl]
        rfl
      clear hm hmp hwl hlow hsl hk0
      go_enter Tryd.func26, Tryd.ntmps26
      go_wp2_with fail
      refine (HMAY.out _ (hr.below hbl0)).mono ?_
      rw [HM.out]
      rintro x w1 ⟨rfl, hb1⟩
      have hbx1 := (hb1.block _ (blk_lt hbx0)).trans hbx0
      obtain ⟨p0, p1, f0, f1, hg⟩ := blk2 hbx1
      have hbl1 := bl_t hbl0 hb1
      have hT1 := hT.below hbl1
      go_wp2
      go_loop [1, 18] (fun kk i => ∃ (j k' : Nat), j ≤ ws.length ∧ i = .int .i64 j ∧ kk = .int .i64 k' ∧ cnt ws (64 * j) + k' = K) (fun _ i => ws.length - (intOf i).toNat)
      case atStart => exact ⟨0, K, Nat.zero_le _, rfl, rfl, by simp [cnt]⟩
      case round =>
        obtain ⟨j, k', hjk, rfl, rfl, hcK⟩ := hrel
        by_cases hlt2 : j < ws.length
        · obtain ⟨b, off, rfl, hblt, hcell⟩ := hr j (by omega)
          have hcz := (hbl1.cell (p := ⟨b, off + j, none⟩) hblt).trans hcell
          have hbw : b < w1.heap.size := Nat.lt_of_lt_of_le hblt hbl1.size
          have hst := Low.start ws j (hlt j)
          obtain ⟨Y, hY⟩ : ∃ Y, Y = wd ws j := ⟨_, rfl⟩
          have hY64 : Y < 18446744073709551616 := by rw [hY]; exact hlt _
          rw [← hY] at hcz hst
          have hn := cnt_next ws j
          rw [← hY] at hn
          have HN := Lib.hid hn
          have hb1' := pop64_le Y
          have HCK := Lib.hid hcK
          have HST := Lib.hid hst
          clear hY hcell hn hcK hst
          by_cases hge : pop 64 Y ≤ k'
          · have hk'63 : k' ≤ 9223372036854775807 := by have := HCK.out; omega
            go_wp2_with (go_at_call 74; refine (oc_any Y hY64 _).mono ?_; rintro e' w' ⟨rfl, rfl⟩)
            go_round
            case rel => exact ⟨j + 1, k' - pop 64 Y, by omega, by go_num, by rw [Int.ofNat_sub hge], by rw [HN.out]; have := HCK.out; omega⟩
            case measure => simp [intOf]; omega
          · have hk64 : k' < 64 := by omega
            go_wp2_with (go_at_call 74; refine (oc_any Y hY64 _).mono ?_; rintro e' w' ⟨rfl, rfl⟩)
            go_loop [1, 6] (fun kk v => ∃ (m t V : Nat), kk = .int .i64 m ∧ v = .int .u64 V ∧ m < 64 ∧ Low ws j t V ∧ cnt ws t + m = K) (fun kk _ => (intOf kk).toNat)
            case atStart => exact ⟨k', 64 * j, Y, rfl, rfl, hk64, HST.out, HCK.out⟩
            case round =>
              obtain ⟨m, t, V, rfl, rfl, hm64, hL, hcm⟩ := hrel
              have hV0 : V ≠ 0 := by
                rintro rfl
                have h1 := cnt_skip hL.hi hL.zero
                have h2 := HN.out
                have h3 := HCK.out
                rw [show 64 * (j + 1) = 64 * j + 64 from by omega] at h2
                omega
              have hV64 := hL.lt
              obtain ⟨p, hp, hp64, htp, hmem, hnone, hL2, hlt3⟩ := hL.step hV0
              have hcp := cnt_skip htp hnone
              by_cases hm0 : 0 < m
              · have hand : bits .and .u64 (V : Int) ((V : Int) - 1) = ((V &&& (V - 1) : Nat) : Int) := by
                  rw [show (V : Int) - 1 = ((V - 1 : Nat) : Int) from by omega]
                  exact u64_and_nat _ _ hV64 (by omega)
                have HCM := Lib.hid (And.intro hcm (And.intro hcp (cnt_mem hmem)))
                have HP1 := Lib.hid (And.intro hp (And.intro hmem hnone))
                have HAND := Lib.hid hand
                have HL2 := Lib.hid hL2
                clear hcm hcp hp hmem hnone hand hL2 hL hlt3
                go_wp2
                rw [HAND.out]
                go_round
                case rel => exact ⟨m - 1, 64 * j + p + 1, _, by rw [Int.ofNat_sub hm0]; rfl, rfl, by omega, HL2.out, by obtain ⟨h1, h2, h3⟩ := HCM.out; omega⟩
                case measure => simp [intOf]; omega
              · obtain rfl : m = 0 := by omega
                have hfin : nth ws K (64 * ws.length) = some (64 * j + p) := nth_eq (by omega) hmem (by omega)
                have HF : Hid (sel s ws K = ((64 * j + p : Nat) : Int)) := by
                  unfold Hid
                  rw [HP.out, hfin]
                  rfl
                have HTZ := Lib.hid (fun w hw => tz_any V hV64 hV0 w hw)
                rw [← hp] at HTZ
                clear hcm hcp hp hmem hnone hL2 hL hlt3 hfin
                go_wp2_with (go_at_call 75; refine (HTZ.out _ hT1).mono ?_; rintro e' w' ⟨rfl, rfl⟩)
                go_ret
                exact ⟨by rw [HF.out]; go_num, hbl1⟩
        · obtain rfl : j = ws.length := by omega
          have hfin : nth ws K (64 * ws.length) = none := nth_none_of (by omega)
          have HF : Hid (sel s ws K = -1) := by
            unfold Hid
            rw [HP.out, hfin]
            rfl
          clear hfin hcK
          go_wp2
          go_ret
          exact ⟨by rw [HF.out]; rfl, hbl1⟩
    · have HP : Hid (sel s ws k = -1) := by unfold Hid sel; rw [if_neg (by rintro ⟨_, h⟩; omega)]
      have hk1 : k < 0 := by omega
      clear hm hmp hk0
      go_enter Tryd.func26, Tryd.ntmps26
      go_wp2_with fail
      refine (HMAY.out _ (hr.below hbl0)).mono ?_
      rw [HM.out]
      rintro x w1 ⟨rfl, hb1⟩
      go_wp2
      go_ret
      rw [HP.out]
      exact ⟨rfl, bl_t hbl0 hb1⟩
end Go.Proofs.YtlmjfcieiengcaaDoor
