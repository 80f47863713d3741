/- sloperef3.Elements: the list of a set's elements. The words are words; the length is one that a slice can have. -/
import Derived.Test.YtlmjfcieiengcaaPop
import Derived.Test.YtlmjfcieiengcaaInts
namespace Go.Proofs.Ytlmjfcieiengcaa
open Go.RowKit
/-- the elements below n, rising -/
def lst (ws : List Nat) : Nat → List Int
  | 0 => []
  | n + 1 => if mem ws n = true then lst ws n ++ [(n : Int)] else lst ws n
noncomputable def lsts (sz : Int) (ws : List Nat) : List Int := if mayB sz ws = true then lst ws sz.toNat else []
theorem lst_length (ws : List Nat) : ∀ n, (lst ws n).length = cnt ws n := by
  intro n
  induction n with
  | zero => rfl
  | succ n ih =>
    rw [lst, cnt]
    cases mem ws n <;> simp [ih]
theorem own_rdI {w : World} {base : Nat} {v : Value} {zs : List Int} (h : w.ownsRow base 3 1 v zs.length (encI zs)) :
    ∃ A c, v = .slice A zs.length c ∧ zs.length ≤ c ∧ RdI w A zs ∧ (A = none → zs.length = 0 ∧ c = 0) ∧ (∀ a, A = some a → base ≤ a.block ∧ a.off = 0 ∧ a.spot = none ∧ IB w a.block zs) := by
  rcases h.2 with ⟨h1, h2⟩ | ⟨g, cap, cur, h1, h2, h3, _⟩
  · subst h1
    have h0 : zs = [] := List.eq_nil_of_length_eq_zero h2
    subst h0
    exact ⟨none, 0, rfl, Nat.le_refl _, RdI.nil _ _, fun _ => ⟨rfl, rfl⟩, fun a h => by cases h⟩
  · subst h1
    obtain ⟨hwb, hgb, _, hc⟩ := own_ib h
    exact ⟨_, _, rfl, hc, hwb.rd, (fun h => by cases h), fun a h => by injection h with h; subst h; exact ⟨h2, rfl, rfl, hwb⟩⟩
theorem lst_le (ws : List Nat) (n : Nat) : (lst ws n).length ≤ n := by rw [lst_length]; exact cnt_le ws n
set_option maxRecDepth 100000 in
set_option maxHeartbeats 4000000 in
theorem relem_any (sz : Int) (A : Option Addr) (c : Nat) (ws : List Nat) (w : World) (hr : Rd w A ws) (hlt : ∀ j, wd ws j < 18446744073709551616) (hl : ws.length ≤ 9223372036854775807) :
    Calls Try.prog 46 #[.agg #[.int .i64 sz, .slice A ws.length c]] w fun x w' => ∃ A' c', x = .returned (.slice A' (lsts sz ws).length c') ∧ (lsts sz ws).length ≤ c' ∧ RdI w' A' (lsts sz ws) ∧ (A' = none → (lsts sz ws).length = 0 ∧ c' = 0) ∧ (∀ a, A' = some a → w.heap.size ≤ a.block ∧ a.off = 0 ∧ a.spot = none ∧ IB w' a.block (lsts sz ws)) ∧ Below w.heap.size w w' := by
  have HMAY := Lib.hid (fun W hW => rmay_any sz A c ws W hW hlt hl)
  have hbl0 := bl_a (Below.refl w.heap.size w) (.cells #[.int .i64 sz, .slice A ws.length c] 24)
  have hbx0 : (w.alloc (.cells #[.int .i64 sz, .slice A ws.length c] 24)).heap[w.heap.size]? = some (.cells #[.int .i64 sz, .slice A ws.length c] 24 (0, 0)) := ha_new _ _ _ rfl
  cases hm : mayB sz ws with
  | false =>
    have HP : Hid (lsts sz ws = []) := by unfold Hid lsts; rw [hm]; rfl
    have HM := Lib.hid hm
    clear hm
    go_enter Try.func46, Try.ntmps46
    go_wp2_with fail
    refine (HMAY.out _ (hr.below hbl0)).mono ?_
    rw [HM.out]
    rintro x w1 ⟨rfl, hb1⟩
    go_wp2
    go_ret
    rw [HP.out]
    exact ⟨none, 0, rfl, Nat.le_refl _, RdI.nil _ _, fun _ => ⟨rfl, rfl⟩, (fun a h => by cases h), bl_t hbl0 hb1⟩
  | true =>
    have hmp : MayP sz ws := by
      have := hm
      unfold mayB at this
      simpa using this
    obtain ⟨s, rfl⟩ : ∃ s : Nat, sz = s := ⟨sz.toNat, by have := hmp.1; omega⟩
    have hs4 : s ≤ 4096 := by have := hmp.2.1; omega
    have hwl : ws.length = nw s := by have := hmp.2.2.1; simpa using this
    have HWL := Lib.hid hwl
    have HP : Hid (lsts s ws = lst ws s) := by unfold Hid lsts; rw [hm]; rfl
    have HM := Lib.hid hm
    clear hm hmp hwl
    go_enter Try.func46, Try.ntmps46
    go_wp2_with fail
    refine (HMAY.out _ (hr.below hbl0)).mono ?_
    rw [HM.out]
    rintro x w1 ⟨rfl, hb1⟩
    have hbx1 := (hb1.block _ (blk_lt hbx0)).trans hbx0
    have hbl1 := bl_t hbl0 hb1
    go_wp2
    go_loopw [3, 4] (fun v i wr => ∃ e : Nat, e ≤ s ∧ i = .int .i64 e ∧ wr.ownsRow (w.heap.size + 1) 3 1 v (lst ws e).length (encI (lst ws e)) ∧ wr.heap[w.heap.size]? = some (.cells #[.int .i64 s, .slice A ws.length c] 24 (0, 0)) ∧ Below w.heap.size w wr) (fun _ i _ => s - (intOf i).toNat)
    case atStart => exact ⟨0, Nat.zero_le _, rfl, World.ownsRow_nil _ _ _ _, hbx1, hbl1⟩
    case round =>
      obtain ⟨e, hes, rfl, hown, hblk, hb⟩ := hrel
      obtain ⟨p0, p1, f0, f1, hg⟩ := blk2 hblk
      by_cases hlt2 : e < s
      · have hin := rin_any s A c e ws wr (hr.below hb) hlt (by rw [HWL.out, nw_eq]; omega) (by rw [HWL.out, nw_eq]; omega)
        cases hm : mem ws e with
        | false =>
          rw [hm] at hin
          have HIN := Lib.hid hin
          have HS : Hid (lst ws (e + 1) = lst ws e) := by unfold Hid; rw [lst, if_neg (by rw [hm]; simp)]
          clear hm hin
          go_wp2_with fail
          refine HIN.out.mono ?_
          rintro x w2 ⟨rfl, hb2⟩
          clear p0 p1 f0 f1
          go_wp2
          go_roundw
          case rel => exact ⟨e + 1, by omega, by go_num, by rw [HS.out]; exact own_below hown hb2, (hb2.block _ hg).trans hblk, bl_t hb hb2⟩
          case measure => simp [intOf]; omega
        | true =>
          rw [hm] at hin
          have HIN := Lib.hid hin
          have HS : Hid (lst ws (e + 1) = lst ws e ++ [(e : Int)]) := by unfold Hid; rw [lst, if_pos hm]
          have hle := lst_le ws e
          clear hm hin
          go_wp2_with fail
          refine HIN.out.mono ?_
          rintro x w2 ⟨rfl, hb2⟩
          clear p0 p1 f0 f1
          have hown2 := own_below hown hb2
          have hbw2 := bl_t hb hb2
          have hblk2 := (hb2.block _ hg).trans hblk
          have hsz2 := blk_lt hblk2
          go_wp2_with (at_builtin; refine app1 (w0 := w) (w.heap.size + 1) rfl _ _ _ 3 (.int .i64 0) 1 8 rfl Try.underlying38 info_int rfl (by decide) (by decide) u3 (lst ws e).length (encI (lst ws e)) [.int .i64 e] rfl _ rfl (by simp) rfl (by simp [Value.oneCell']) hown2 hbw2 (by omega) (by omega) (by omega) ?_; intro v1 w3 ho1 hb3 hg3)
          go_roundw
          case rel => exact ⟨e + 1, by omega, by go_num, by rw [HS.out]; simpa [encI] using ho1, blk_grown hblk2 hg3 (by intro h; have := own_base hown2 _ h.symm; omega), hb3⟩
          case measure => simp [intOf]; omega
      · obtain rfl : e = s := by omega
        clear hbx1
        go_wp2
        obtain ⟨A', c', rfl, h1, h2, h3, h4⟩ := own_rdI hown
        go_ret
        rw [HP.out]
        exact ⟨A', c', rfl, h1, h2, h3, (fun a ha => by obtain ⟨g1, g2⟩ := h4 a ha; exact ⟨by omega, g2⟩), hb⟩
end Go.Proofs.Ytlmjfcieiengcaa
