/- sloperef3.List and fresh. The words are words; the size is small. -/
import Derived.Test.YtlmjfcieiengcaaRLst
import Derived.Test.YtlmjfcieiengcaaBools
import Derived.Test.YtlmjfcieiengcaaCount
namespace Go.Proofs.Ytlmjfcieiengcaa
open Go.RowKit
theorem cntb_le (f : Nat → Bool) (n : Nat) : cntb f n ≤ n := by
  induction n with
  | zero => exact Nat.le_refl _
  | succ n ih =>
    rw [cntb]
    split <;> omega
/-- n truths -/
def bools (f : Nat → Bool) (n : Nat) : List Bool := (List.range n).map f
theorem bools_length (f : Nat → Bool) (n : Nat) : (bools f n).length = n := by simp [bools]
theorem bd_bools (f : Nat → Bool) (n j : Nat) (h : j < n) : bd (bools f n) j = f j := by
  rw [bd_lt (by rw [bools_length]; exact h)]
  simp [bools]
theorem bools_ext {l : List Bool} {f : Nat → Bool} {n : Nat} (hl : l.length = n) (h : ∀ j, j < n → bd l j = f j) : l = bools f n := by
  refine List.ext_getElem (by rw [bools_length, hl]) fun j h1 h2 => ?_
  have := h j (by omega)
  rw [bd_lt h1] at this
  rw [this]
  simp [bools]
set_option maxRecDepth 100000 in
set_option maxHeartbeats 4000000 in
theorem list_any (n : Nat) (A : Option Addr) (c : Nat) (ws : List Nat) (w : World) (hr : Rd w A ws) (hlt : ∀ j, wd ws j < 18446744073709551616) (hl : ws.length = nw n) (hn : n ≤ 4096) :
    Calls Try.prog 45 #[.agg #[.int .i64 n, .slice A ws.length c]] w fun x w' => ∃ g, x = .returned (.slice (some ⟨g, 0, none⟩) n n) ∧ w.heap.size ≤ g ∧ BB w' g (bools (mem ws) n) ∧ Below w.heap.size w w' := by
  have hmk := mk_bools n (by omega)
  have hbl0 := bl_a (Below.refl w.heap.size w) (.cells #[.int .i64 n, .slice A ws.length c] 24)
  have hbx0 : (w.alloc (.cells #[.int .i64 n, .slice A ws.length c] 24)).heap[w.heap.size]? = some (.cells #[.int .i64 n, .slice A ws.length c] 24 (0, 0)) := ha_new _ _ _ rfl
  have HL := Lib.hid hl
  clear hl
  go_enter Try.func45, Try.ntmps45
  go_wp2
  go_loopw [4] (fun i wr => ∃ (e : Nat) (l : List Bool), e ≤ n ∧ i = .int .i64 e ∧ l.length = n ∧ (∀ j, j < e → bd l j = mem ws j) ∧ BB wr (w.heap.size + 1) l ∧ wr.heap[w.heap.size]? = some (.cells #[.int .i64 n, .slice A ws.length c] 24 (0, 0)) ∧ Below w.heap.size w wr) (fun i _ => n - (intOf i).toNat)
  case atStart => exact ⟨0, List.replicate n false, Nat.zero_le _, rfl, by simp, fun j h => by omega, by have := BB.made (w.alloc (.cells #[.int .i64 n, .slice A ws.length c] 24)) n; simpa using this, (ha_old _ _ _ (by simp)).trans hbx0, bl_a hbl0 _⟩
  case round =>
    obtain ⟨e, l, hen, rfl, hll, hbd, hbb, hblk, hb⟩ := hrel
    obtain ⟨p0, p1, f0, f1, hg⟩ := blk2 hblk
    have HBD := Lib.hid hbd
    have HLL := Lib.hid hll
    clear hbd hll
    by_cases hlt2 : e < n
    · have hin := rin_any n A c e ws wr (hr.below hb) hlt (by rw [HL.out, nw_eq]; omega) (by rw [HL.out, nw_eq]; omega)
      have HIN := Lib.hid hin
      clear hin
      go_wp2_with fail
      refine HIN.out.mono ?_
      rintro x w2 ⟨rfl, hb2⟩
      have hbb2 := hbb.below hb2
      have hc2 := hbb2.cell (j := e) (by rw [HLL.out]; exact hlt2)
      have hf2 := hbb2.frozen e
      have hblk2 := (hb2.block _ hg).trans hblk
      have hb02 := bl_t hb hb2
      have hg2 := hbb2.lt
      have HST := Lib.hid (hbb2.set (j := e) (by rw [HLL.out]; exact hlt2) (mem ws e))
      clear p0 p1 f0 f1 hbb
      obtain ⟨y, hy⟩ : ∃ y, y = mem ws e := ⟨_, rfl⟩
      rw [← hy] at HST
      rw [← hy]
      have HY := Lib.hid hy
      clear hy
      go_wp2
      go_roundw
      case rel => exact ⟨e + 1, l.set e y, by omega, by go_num, by rw [List.length_set]; exact HLL.out, fun j hj => by
        rw [bd_set _ _ _ _ (by rw [HLL.out]; exact hlt2)]
        by_cases h : j = e
        · rw [if_pos h, h, HY.out]
        · rw [if_neg h]; exact HBD.out j (by omega), HST.out, (hs_other _ _ _ _ (by simp)).trans hblk2, bl_s hb02 (by simp) _⟩
      case measure => simp [intOf]; omega
    · obtain rfl : e = n := by omega
      go_wp2
      go_ret
      have hl2 := bools_ext HLL.out HBD.out
      rw [← hl2]
      exact ⟨_, rfl, by simp, hbb, hb⟩
set_option maxRecDepth 100000 in
set_option maxHeartbeats 4000000 in
theorem fresh_any (n : Nat) (A : Option Addr) (c : Nat) (ws : List Nat) (B : Option Addr) (cb : Nat) (f : Nat → Bool) (w : World) (hr : Rd w A ws) (hlt : ∀ j, wd ws j < 18446744073709551616) (hl : ws.length = nw n) (hn : n ≤ 4096) (hB : RdB w B (bools f n)) :
    Calls Try.prog 47 #[.agg #[.int .i64 n, .slice A ws.length c], .slice B n cb] w fun x w' => x = .returned (.int .i64 (cntb (fun e => f e && mem ws e) n : Nat)) ∧ Below w.heap.size w w' := by
  have hbl0 := bl_a (Below.refl w.heap.size w) (.cells #[.int .i64 n, .slice A ws.length c] 24)
  have hbx0 : (w.alloc (.cells #[.int .i64 n, .slice A ws.length c] 24)).heap[w.heap.size]? = some (.cells #[.int .i64 n, .slice A ws.length c] 24 (0, 0)) := ha_new _ _ _ rfl
  have HL := Lib.hid hl
  clear hl
  go_enter Try.func47, Try.ntmps47
  go_wp2
  go_loopw [5, 6] (fun m i wr => ∃ e : Nat, e ≤ n ∧ i = .int .i64 e ∧ m = .int .i64 (cntb (fun e => f e && mem ws e) e : Nat) ∧ wr.heap[w.heap.size]? = some (.cells #[.int .i64 n, .slice A ws.length c] 24 (0, 0)) ∧ Below w.heap.size w wr) (fun _ i _ => n - (intOf i).toNat)
  case atStart => exact ⟨0, Nat.zero_le _, rfl, rfl, hbx0, hbl0⟩
  case round =>
    obtain ⟨e, hen, rfl, rfl, hblk, hb⟩ := hrel
    obtain ⟨p0, p1, f0, f1, hg⟩ := blk2 hblk
    have hcl := cntb_le (fun e => f e && mem ws e) e
    have hcs : cntb (fun e => f e && mem ws e) (e + 1) = cntb (fun e => f e && mem ws e) e + (if (f e && mem ws e) = true then 1 else 0) := rfl
    obtain ⟨m, hm⟩ : ∃ m, m = cntb (fun e => f e && mem ws e) e := ⟨_, rfl⟩
    rw [← hm] at hcl hcs
    by_cases hlt2 : e < n
    · obtain ⟨b, off, rfl, hblt, hc⟩ := (hB.below hb) e (by rw [bools_length]; exact hlt2)
      rw [bd_bools _ _ _ hlt2] at hc
      rw [← hm]
      have hi0 : (0 : Int) ≤ (e : Int) := by omega
      have hi1 : (e : Int) < (n : Int) := by omega
      cases hfe : f e with
      | false =>
        rw [hfe] at hc hcs
        have HCS := Lib.hid hcs
        clear hm hcs hfe
        go_wp2
        go_roundw
        case rel => exact ⟨e + 1, by omega, by go_num, by rw [HCS.out]; simp, hblk, hb⟩
        case measure => simp [intOf]; omega
      | true =>
        rw [hfe] at hc hcs
        have hin := rin_any n A c e ws wr (hr.below hb) hlt (by rw [HL.out, nw_eq]; omega) (by rw [HL.out, nw_eq]; omega)
        cases hme : mem ws e with
        | false =>
          rw [hme] at hin hcs
          have HIN := Lib.hid hin
          have HCS := Lib.hid hcs
          clear hin hm hcs hfe hme
          go_wp2_with fail
          refine HIN.out.mono ?_
          rintro x w2 ⟨rfl, hb2⟩
          have hblk2 := (hb2.block _ hg).trans hblk
          clear p0 p1 f0 f1
          go_wp2
          go_roundw
          case rel => exact ⟨e + 1, by omega, by go_num, by rw [HCS.out]; simp, hblk2, bl_t hb hb2⟩
          case measure => simp [intOf]; omega
        | true =>
          rw [hme] at hin hcs
          have HIN := Lib.hid hin
          have HCS := Lib.hid hcs
          clear hin hm hcs hfe hme
          go_wp2_with fail
          refine HIN.out.mono ?_
          rintro x w2 ⟨rfl, hb2⟩
          have hblk2 := (hb2.block _ hg).trans hblk
          clear p0 p1 f0 f1
          go_wp2
          go_roundw
          case rel => exact ⟨e + 1, by omega, by go_num, by rw [HCS.out]; simp, hblk2, bl_t hb hb2⟩
          case measure => simp [intOf]; omega
    · obtain rfl : e = n := by omega
      go_wp2
      go_ret
      exact ⟨rfl, hb⟩
end Go.Proofs.Ytlmjfcieiengcaa
