/- bitset.own: a set's words in new memory. The words are words; the length is one that a slice can have. -/
import Derived.Test.YtlmjfcieiengcaaTwin
namespace Go.Proofs.Ytlmjfcieiengcaa
open Go.RowKit
/-- a set's words in new memory; none, if it may not be -/
noncomputable def mine (sz : Int) (ws : List Nat) : List Nat := if mayB sz ws = true then ws else []
set_option maxHeartbeats 4000000 in
theorem ownc_any (sz : Int) (A : Option Addr) (c : Nat) (ws : List Nat) (w : World) (hr : Rd w A ws) (hlt : ∀ j, wd ws j < 18446744073709551616) (hA : A = none → ws.length = 0 ∧ c = 0) (hl : ws.length ≤ 9223372036854775807) :
    Calls Try.prog 62 #[.agg #[.int .i64 sz, .slice A ws.length c]] w fun x w' => ∃ A' c', x = .returned (.slice A' (mine sz ws).length c') ∧ Rd w' A' (mine sz ws) ∧ (∀ a, A' = some a → w.heap.size ≤ a.block ∧ a.block < w'.heap.size ∧ a.off = 0 ∧ a.spot = none ∧ WB w' a.block (mine sz ws)) ∧ (A' = none → (mine sz ws).length = 0 ∧ c' = 0) ∧ Below w.heap.size w w' ∧ (mine sz ws).length ≤ c' := by
  have HMAY := Lib.hid (fun W hW => may_any sz A c ws W hW hlt hl)
  have hbl0 := bl_a (Below.refl w.heap.size w) (.cells #[.int .i64 sz, .slice A ws.length c] 24)
  have hbx0 : (w.alloc (.cells #[.int .i64 sz, .slice A ws.length c] 24)).heap[w.heap.size]? = some (.cells #[.int .i64 sz, .slice A ws.length c] 24 (0, 0)) := ha_new _ _ _ rfl
  cases hm : mayB sz ws with
  | false =>
    have HMI : Hid (mine sz ws = []) := by unfold Hid mine; rw [hm]; rfl
    have HM := Lib.hid hm
    clear hm
    go_enter Try.func62, Try.ntmps62
    go_wp2_with fail
    refine (HMAY.out _ (hr.below hbl0)).mono ?_
    rw [HM.out]
    rintro x w1 ⟨rfl, hb1⟩
    go_wp2
    go_ret
    rw [HMI.out]
    exact ⟨none, 0, rfl, RdK.nil _ _ _, (fun a h => by cases h), (fun _ => ⟨rfl, rfl⟩), bl_t hbl0 hb1, Nat.le_refl _⟩
  | true =>
    have HMI : Hid (mine sz ws = ws) := by unfold Hid mine; rw [hm]; rfl
    have hmp : MayP sz ws := by
      have := hm
      unfold mayB at this
      simpa using this
    have hl2 : ws.length ≤ 64 := by have := hmp.2.2.1; have := hmp.2.1; rw [nw_eq] at *; omega
    have HM := Lib.hid hm
    clear hm hmp
    go_enter Try.func62, Try.ntmps62
    go_wp2_with fail
    refine (HMAY.out _ (hr.below hbl0)).mono ?_
    rw [HM.out]
    rintro x w1 ⟨rfl, hb1⟩
    have hbx1 := (hb1.block _ (blk_lt hbx0)).trans hbx0
    obtain ⟨p0, p1, f0, f1, hg⟩ := blk2 hbx1
    have hbl1 := bl_t hbl0 hb1
    go_wp2_with (at_builtin; refine appC (w0 := w) w.heap.size rfl _ _ _ 75 (.int .u64 0) 1 8 rfl Try.underlying22 info_u64 rfl (by decide) (by decide) (.slice none 0 0) 0 [] rfl A ws.length c (enc64 ws) rfl (by simp [enc64]) (rd_news (hr.below hbl1)) (oneCell_enc ws) hA (World.ownsRow_nil _ _ _ _) hbl1 (Nat.le_refl _) hbl1.size (by omega) ?_; intro v1 w2 ho1 hb2 hg1 hn1)
    rw [List.nil_append] at ho1
    rw [Nat.zero_add] at ho1
    obtain ⟨A2, c2, rfl, hc2⟩ := own_slice ho1
    go_ret
    rw [HMI.out]
    rcases ho1.2 with ⟨h1, h2⟩ | ⟨g, cap, cur, h1, h2, h3, _⟩
    · injection h1 with h1 _ h4
      subst h1 h4
      have : ws = [] := List.eq_nil_of_length_eq_zero h2
      subst this
      exact ⟨none, 0, rfl, RdK.nil _ _ _, (fun a h => by cases h), (fun _ => ⟨rfl, rfl⟩), hb2, Nat.le_refl _⟩
    · injection h1 with h1 _ h4
      subst h1 h4
      obtain ⟨hwb, hgb, _, _⟩ := own_wb ho1 rfl
      exact ⟨_, _, rfl, hwb.rd, (fun a h => by injection h with h; subst h; exact ⟨h2, blk_lt h3, rfl, rfl, hwb⟩), (fun h => by cases h), hb2, hc2⟩
theorem own_any (sz : Int) (A : Option Addr) (c : Nat) (ws : List Nat) (w : World) (hr : Rd w A ws) (hlt : ∀ j, wd ws j < 18446744073709551616) (hA : A = none → ws.length = 0 ∧ c = 0) (hl : ws.length ≤ 9223372036854775807) :
    Calls Try.prog 62 #[.agg #[.int .i64 sz, .slice A ws.length c]] w fun x w' => ∃ A' c', x = .returned (.slice A' (mine sz ws).length c') ∧ Rd w' A' (mine sz ws) ∧ (∀ a, A' = some a → w.heap.size ≤ a.block ∧ a.block < w'.heap.size ∧ a.off = 0 ∧ a.spot = none ∧ WB w' a.block (mine sz ws)) ∧ (A' = none → (mine sz ws).length = 0 ∧ c' = 0) ∧ Below w.heap.size w w' :=
  (ownc_any sz A c ws w hr hlt hA hl).mono fun _ _ ⟨A', c', h1, h2, h3, h4, h5, _⟩ => ⟨A', c', h1, h2, h3, h4, h5⟩
end Go.Proofs.Ytlmjfcieiengcaa
