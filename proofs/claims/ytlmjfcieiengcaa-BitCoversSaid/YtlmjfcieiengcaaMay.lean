/- Which sets may be: bitset.May and sloperef3.May answer the same; mask, In, has. The words are words; the length is one that a slice can have. -/
import Derived.Test.YtlmjfcieiengcaaSmall
namespace Go.Proofs.Ytlmjfcieiengcaa
open Go.RowKit
/-! ### plain -/
theorem not_bit (m i : Nat) (hm : m < 18446744073709551616) : (18446744073709551615 - m).testBit i = (decide (i < 64) && !m.testBit i) := by
  have h : 18446744073709551615 - m = 2 ^ 64 - (m + 1) := by omega
  rw [h, Nat.testBit_two_pow_sub_succ (by simpa using hm)]
def msk (n : Nat) : Nat := if n % 64 = 0 then 18446744073709551615 else 2 ^ (n % 64) - 1
theorem msk_lt (n : Nat) : msk n < 18446744073709551616 := by
  unfold msk
  split
  · decide
  · have := pow_lt64 n; omega
theorem msk_bit (n i : Nat) (hi : i < 64) : (msk n).testBit i = decide (n % 64 = 0 ∨ i < n % 64) := by
  unfold msk
  split
  · rename_i h
    have : (18446744073709551615 : Nat) = 2 ^ 64 - 1 := by decide
    rw [this, Nat.testBit_two_pow_sub_one]
    simp [hi, h]
  · rename_i h
    rw [Nat.testBit_two_pow_sub_one]
    simp [h]
def MayP (sz : Int) (ws : List Nat) : Prop := 0 ≤ sz ∧ sz ≤ 4096 ∧ ws.length = nw sz.toNat ∧ ∀ e, sz.toNat ≤ e → e < 64 * ws.length → mem ws e = false
noncomputable def mayB (sz : Int) (ws : List Nat) : Bool := @decide (MayP sz ws) (Classical.propDecidable _)
theorem mayB_true {sz : Int} {ws : List Nat} (h : MayP sz ws) : mayB sz ws = true := by unfold mayB; simp [h]
theorem mayB_false {sz : Int} {ws : List Nat} (h : ¬ MayP sz ws) : mayB sz ws = false := by unfold mayB; simp [h]
theorem MayP.ws {sz : Int} {ws : List Nat} (h : MayP sz ws) (hlt : ∀ j, wd ws j < 18446744073709551616) : Ws ws sz.toNat (mem ws) := by
  obtain ⟨h1, h2, h3, h4⟩ := h
  refine ⟨h3, hlt, fun e => ?_⟩
  by_cases he : e < sz.toNat
  · simp [he]
  · simp only [he, decide_false, Bool.false_and]
    by_cases hl : e < 64 * ws.length
    · exact h4 e (by omega) hl
    · exact mem_ge (by omega)
theorem last_zero {ws : List Nat} {n : Nat} (hl : ws.length = nw n) (h0 : 0 < ws.length) (hlt : ∀ j, wd ws j < 18446744073709551616) :
    wd ws (ws.length - 1) &&& (18446744073709551615 - msk n) = 0 ↔ ∀ e, n ≤ e → e < 64 * ws.length → mem ws e = false := by
  rw [nw_eq] at hl
  constructor
  · intro h e h1 h2
    have h3 : e / 64 = ws.length - 1 := by omega
    have h4 := congrArg (fun x => x.testBit (e % 64)) h
    simp only [Nat.testBit_and, Nat.zero_testBit, not_bit _ _ (msk_lt n)] at h4
    have h5 : e % 64 < 64 := by omega
    rw [msk_bit n _ h5] at h4
    have h6 : ¬ (n % 64 = 0 ∨ e % 64 < n % 64) := by omega
    simp [h5, h6] at h4
    unfold mem
    rw [h3]
    exact h4
  · intro h
    refine nat_ext (Nat.lt_of_le_of_lt Nat.and_le_left (hlt _)) (by decide) fun i hi => ?_
    simp only [Nat.testBit_and, Nat.zero_testBit, not_bit _ _ (msk_lt n)]
    rw [msk_bit n _ hi]
    by_cases h6 : n % 64 = 0 ∨ i < n % 64
    · simp [h6]
    · have := h (64 * (ws.length - 1) + i) (by omega) (by omega)
      unfold mem at this
      rw [show (64 * (ws.length - 1) + i) / 64 = ws.length - 1 from by omega, show (64 * (ws.length - 1) + i) % 64 = i from by omega] at this
      simp [this]
/-! ### walks -/
theorem mask_any (n : Nat) (hn : n ≤ 4096) (w : World) : Calls Try.prog 61 #[.int .i64 n] w fun x w' => x = .returned (.int .u64 (msk n)) ∧ w = w' := by
  by_cases h : n % 64 = 0
  · have h1 : (((n % 64 : Nat) : Int) == 0) = true := by simp; omega
    have HM : Hid (msk n = 18446744073709551615) := by unfold Hid msk; rw [if_pos h]
    go_enter Try.func61, Try.ntmps61
    go_wp2
    go_ret
    exact ⟨by rw [HM.out]; rfl, rfl⟩
  · have h1 : (((n % 64 : Nat) : Int) == 0) = false := by simp; omega
    have HM : Hid (msk n = 2 ^ (n % 64) - 1) := by unfold Hid msk; rw [if_neg h]
    go_enter Try.func61, Try.ntmps61
    go_wp2
    go_ret
    have h2 : IntKind.u64.wrap (IntKind.u64.wrap (2 ^ (n % 64)) - 1) = ((msk n : Nat) : Int) := by
      rw [wrap_pow, HM.out, IntKind.wrap_u64]
      have h3 := pow_lt64 n
      have h4 : 0 < 2 ^ (n % 64) := Nat.two_pow_pos _
      generalize 2 ^ (n % 64) = p at h3 h4
      omega
    exact ⟨by rw [← h2]; rfl, rfl⟩
set_option maxHeartbeats 4000000 in
theorem may_any (sz : Int) (A : Option Addr) (c : Nat) (ws : List Nat) (w : World) (hr : Rd w A ws) (hlt : ∀ j, wd ws j < 18446744073709551616) (hl : ws.length ≤ 9223372036854775807) :
    Calls Try.prog 42 #[.agg #[.int .i64 sz, .slice A ws.length c]] w fun x w' => x = .returned (.bool (mayB sz ws)) ∧ Below w.heap.size w w' := by
  by_cases hs : 0 ≤ sz ∧ sz ≤ 4096
  · obtain ⟨n, rfl⟩ : ∃ n : Nat, sz = n := ⟨sz.toNat, by omega⟩
    have hn : n ≤ 4096 := by omega
    have hsz : szB n = true := by unfold szB; simp; omega
    clear hs
    by_cases hw : ws.length = nw n
    · have hw1 : ((ws.length : Int) != (nw n : Nat)) = false := by rw [hw]; simp
      have HW := Lib.hid hw
      by_cases h0 : ws.length = 0
      · have HB : Hid (mayB n ws = true) := mayB_true ⟨by omega, by omega, HW.out, fun e h1 h2 => by rw [h0] at h2; omega⟩
        have h00 : ((ws.length : Int) == 0) = true := by rw [h0]; rfl
        clear h0 hw
        go_enter Try.func42, Try.ntmps42
        go_wp2
        go_quiet (first | (go_at_call 33; exact (sized_any _ _).mono fun _ _ h => ⟨h.1, _, h.2.symm⟩) | (go_at_call 59; exact (words_any n (by omega) _).mono fun _ _ h => ⟨h.1, _, h.2.symm⟩))
        go_wp2
        go_quiet (fail)
        go_wp2
        go_ret
        exact ⟨by rw [HB.out]; rfl, bl_dn (bl_dn (bl_a (Below.refl _ _) _) _) _⟩
      · have h00 : ((ws.length : Int) == 0) = false := by rw [beq_eq_false_iff_ne]; omega
        have hpos : 1 ≤ ws.length := by omega
        obtain ⟨b, off, rfl, hblt, hcell⟩ := hr (ws.length - 1) (by omega)
        obtain ⟨K, hK⟩ : ∃ K, K = ws.length - 1 := ⟨_, rfl⟩
        have hi4 : (ws.length : Int) - 1 = (K : Int) := by omega
        have hKlt : K < ws.length := by omega
        rw [← hK] at hcell
        obtain ⟨X, hX⟩ : ∃ X, X = wd ws K := ⟨_, rfl⟩
        rw [← hX] at hcell
        have hX64 : X < 18446744073709551616 := by rw [hX]; exact hlt _
        have HX := Lib.hid hX
        have hlz := last_zero hw (by omega) hlt
        rw [← hK, ← hX] at hlz
        have hlz2 : ((X &&& (18446744073709551615 - msk n) : Nat) = 0) = MayP n ws := by
          rw [hlz]
          simp only [MayP, eq_iff_iff]
          constructor
          · intro h; exact ⟨by omega, by omega, hw, h⟩
          · intro h; exact h.2.2.2
        obtain ⟨Y, hY⟩ : ∃ Y, Y = X &&& (18446744073709551615 - msk n) := ⟨_, rfl⟩
        rw [← hY] at hlz2
        have HY : Hid (((X &&& (18446744073709551615 - msk n) : Nat) : Int) = Y) := by unfold Hid; rw [hY]
        have HB : Hid (mayB n ws = ((Y : Int) == 0)) := by
          unfold Hid
          rw [Bool.eq_iff_iff]
          unfold mayB
          rw [@decide_eq_true_iff _ (Classical.propDecidable _), ← hlz2]
          simp
        have hand : bits .andNot .u64 (X : Int) (msk n : Nat) = (Y : Int) := by rw [u64_andNot_nat _ _ hX64 (msk_lt n)]; exact HY.out
        have hi5 : IntKind.i64.wrap (K : Int) = (K : Int) := IntWalk.i64_in _ (by omega)
        clear h0 hw hX hlz hlz2 hY hK
        go_enter Try.func42, Try.ntmps42
        go_wp2
        go_quiet (first | (go_at_call 33; exact (sized_any _ _).mono fun _ _ h => ⟨h.1, _, h.2.symm⟩) | (go_at_call 59; exact (words_any n (by omega) _).mono fun _ _ h => ⟨h.1, _, h.2.symm⟩))
        go_wp2
        go_quiet (first | (go_at_call 61; exact (mask_any n hn _).mono fun _ _ h => ⟨h.1, _, h.2.symm⟩))
        go_wp2
        go_ret
        exact ⟨by rw [HB.out]; rfl, bl_dn (bl_dn (bl_a (Below.refl _ _) _) _) _⟩
    · have hw1 : ((ws.length : Int) != (nw n : Nat)) = true := by simp; omega
      have HB : Hid (mayB n ws = false) := mayB_false fun h => hw h.2.2.1
      clear hw
      go_enter Try.func42, Try.ntmps42
      go_wp2
      go_quiet (first | (go_at_call 33; exact (sized_any _ _).mono fun _ _ h => ⟨h.1, _, h.2.symm⟩) | (go_at_call 59; exact (words_any n (by omega) _).mono fun _ _ h => ⟨h.1, _, h.2.symm⟩))
      go_wp2
      go_ret
      exact ⟨by rw [HB.out]; rfl, bl_dn (bl_a (Below.refl _ _) _) _⟩
  · have hsz : szB sz = false := by unfold szB; simp; omega
    have HB : Hid (mayB sz ws = false) := mayB_false fun h => hs ⟨h.1, h.2.1⟩
    clear hs
    go_enter Try.func42, Try.ntmps42
    go_wp2
    go_quiet (first | (go_at_call 33; exact (sized_any _ _).mono fun _ _ h => ⟨h.1, _, h.2.symm⟩))
    go_wp2
    go_ret
    exact ⟨by rw [HB.out]; rfl, bl_dn (bl_a (Below.refl _ _) _) _⟩
/-- is e in the set? (e below 64 times the words) -/
theorem wrap_nat (n : Nat) (h : n < 18446744073709551616) : IntKind.u64.wrap (n : Int) = n := by rw [IntKind.wrap_u64]; omega
theorem bit_div (X k : Nat) : ((X : Int) / 2 ^ k).tmod 2 = ((X / 2 ^ k % 2 : Nat) : Int) := by
  have h1 : (X : Int) / 2 ^ k = ((X / 2 ^ k : Nat) : Int) := by push_cast; rfl
  rw [h1]
  generalize X / 2 ^ k = y
  rw [Int.tmod_eq_emod_of_nonneg (by omega)]
  omega
theorem bit_eq (X k : Nat) : (((X / 2 ^ k % 2 : Nat) : Int) == 1) = X.testBit k := by
  rw [Nat.testBit_eq_decide_div_mod_eq]
  generalize X / 2 ^ k % 2 = y
  rw [Bool.eq_iff_iff, beq_iff_eq, decide_eq_true_iff]
  omega
theorem and_one (X k : Nat) (hX : X < 18446744073709551616) : bits .and .u64 ((X : Int) / 2 ^ k) 1 = ((X / 2 ^ k % 2 : Nat) : Int) := by
  have h1 : (X : Int) / 2 ^ k = ((X / 2 ^ k : Nat) : Int) := by push_cast; rfl
  have h2 : X / 2 ^ k < 18446744073709551616 := Nat.lt_of_le_of_lt (Nat.div_le_self _ _) hX
  rw [h1]
  have h3 := u64_and_nat (X / 2 ^ k) 1 h2 (by decide)
  rw [nat_mask1] at h3
  exact h3
set_option maxHeartbeats 4000000 in
theorem rin_any (sz : Int) (A : Option Addr) (c e : Nat) (ws : List Nat) (w : World) (hr : Rd w A ws) (hlt : ∀ j, wd ws j < 18446744073709551616) (he : e / 64 < ws.length) (hl : ws.length ≤ 65536) :
    Calls Try.prog 48 #[.agg #[.int .i64 sz, .slice A ws.length c], .int .i64 e] w fun x w' => x = .returned (.bool (mem ws e)) ∧ Below w.heap.size w w' := by
  obtain ⟨b, off, rfl, hblt, hcell⟩ := hr (e / 64) he
  obtain ⟨X, hX⟩ : ∃ X, X = wd ws (e / 64) := ⟨_, rfl⟩
  rw [← hX] at hcell
  have hX64 : X < 18446744073709551616 := by rw [hX]; exact hlt _
  have HB : Hid (mem ws e = X.testBit (e % 64)) := by unfold Hid mem; rw [hX]
  clear hX
  go_enter Try.func48, Try.ntmps48
  go_wp2
  go_ret
  exact ⟨by rw [HB.out, ← bit_eq, ← bit_div]; rfl, bl_a (Below.refl _ _) _⟩
set_option maxHeartbeats 4000000 in
theorem rmay_any (sz : Int) (A : Option Addr) (c : Nat) (ws : List Nat) (w : World) (hr : Rd w A ws) (hlt : ∀ j, wd ws j < 18446744073709551616) (hl : ws.length ≤ 9223372036854775807) :
    Calls Try.prog 20 #[.agg #[.int .i64 sz, .slice A ws.length c]] w fun x w' => x = .returned (.bool (mayB sz ws)) ∧ Below w.heap.size w w' := by
  by_cases hs : 0 ≤ sz
  · obtain ⟨n, rfl⟩ : ∃ n : Nat, sz = n := ⟨sz.toNat, by omega⟩
    by_cases hn : n ≤ 4096
    · have hnw : ((n : Int) + 63) / 64 = ((nw n : Nat) : Int) := by rw [nw_eq]; omega
      by_cases hw : ws.length = nw n
      · have hw1 : ((ws.length : Int) != (nw n : Nat)) = false := by rw [hw]; simp
        have HW := Lib.hid hw
        have hl2 : ws.length ≤ 64 := by rw [hw, nw_eq]; omega
        clear hw
        go_enter Try.func20, Try.ntmps20
        go_wp2
        go_loopw [3] (fun v wr => ∃ e : Nat, v = .int .i64 e ∧ n ≤ e ∧ (∀ j, n ≤ j → j < e → mem ws j = false) ∧ wr.heap[w.heap.size]? = some (.cells #[.int .i64 n, .slice A ws.length c] 24 (0, 0)) ∧ Below w.heap.size w wr) (fun v _ => 64 * ws.length - (intOf v).toNat)
        case atStart => exact ⟨n, rfl, Nat.le_refl _, fun j h1 h2 => by omega, ha_new _ _ _ rfl, bl_a (Below.refl _ _) _⟩
        case round =>
          obtain ⟨e, rfl, hne, hall, hblk, hb⟩ := hrel
          have HALL := Lib.hid hall
          obtain ⟨p0, p1, f0, f1, hg⟩ := blk2 hblk
          clear hall
          by_cases hlt2 : e < 64 * ws.length
          · have hin := fun W hW => rin_any n A c e ws W hW hlt (by omega) (by omega)
            have HIN := Lib.hid hin
            clear hin
            cases hm : mem ws e with
            | true =>
              have HB : Hid (mayB n ws = false) := mayB_false fun h => by
                have := h.2.2.2 e (by simpa using hne) hlt2
                rw [hm] at this
                cases this
              have HM := Lib.hid hm
              clear hm
              go_wp2_with fail
              refine (HIN.out _ (hr.below hb)).mono ?_
              rw [HM.out]
              rintro x w2 ⟨rfl, hb2⟩
              go_wp2
              go_ret
              exact ⟨by rw [HB.out]; rfl, bl_t hb hb2⟩
            | false =>
              have HM := Lib.hid hm
              clear hm
              go_wp2_with fail
              refine (HIN.out _ (hr.below hb)).mono ?_
              rw [HM.out]
              rintro x w2 ⟨rfl, hb2⟩
              clear p0 p1 f0 f1 hg
              go_wp2
              go_roundw
              case rel => exact ⟨e + 1, by go_num, by omega, fun j h1 h2 => by
                by_cases h : j = e
                · rw [h]; exact HM.out
                · exact HALL.out j h1 (by omega), (hb2.block _ (blk_lt hblk)).trans hblk, bl_t hb hb2⟩
              case measure => simp [intOf]; omega
          · have HB : Hid (mayB n ws = true) := mayB_true ⟨by omega, by omega, by simpa using HW.out, fun j h1 h2 => HALL.out j (by simpa using h1) (by omega)⟩
            go_wp2
            go_ret
            exact ⟨by rw [HB.out]; rfl, hb⟩
      · have hw1 : ((ws.length : Int) != (nw n : Nat)) = true := by simp; omega
        have HB : Hid (mayB n ws = false) := mayB_false fun h => hw h.2.2.1
        clear hw
        go_enter Try.func20, Try.ntmps20
        go_wp2
        go_ret
        exact ⟨by rw [HB.out]; rfl, bl_a (Below.refl _ _) _⟩
    · have HB : Hid (mayB n ws = false) := mayB_false fun h => hn (by have := h.2.1; omega)
      go_enter Try.func20, Try.ntmps20
      go_wp2
      go_ret
      exact ⟨by rw [HB.out]; rfl, bl_a (Below.refl _ _) _⟩
  · have HB : Hid (mayB sz ws = false) := mayB_false fun h => hs h.1
    go_enter Try.func20, Try.ntmps20
    go_wp2
    go_ret
    exact ⟨by rw [HB.out]; rfl, bl_a (Below.refl _ _) _⟩
end Go.Proofs.Ytlmjfcieiengcaa
