/- bitset.MayTable and sloperef3.MayTable answer the same. The words are words; the lengths are ones that slices can have. -/
import Derived.Test.YtlmjfcieiengcaaSetRow
import Derived.Deep.RegionHeld3
import Derived.Deep.RegionWith
import Derived.BigRegion
namespace Go.Proofs.Ytlmjfcieiengcaa
open Go.RowKit
/-- may the table be? -/
noncomputable def mtB (size : Int) (l : List SV) : Bool := decide (l.length ≤ 4096) && decide (fitE size l = 0)
theorem mtB_true {size : Int} {l : List SV} (h : mtB size l = true) : l.length ≤ 4096 ∧ fitE size l = 0 := by
  unfold mtB at h
  simpa using h
theorem fitE_of {size : Int} {l : List SV} (h1 : ∀ s ∈ l, mayB s.sz s.ws = true) (h2 : szB size = true) (h3 : ∀ s ∈ l, s.sz = size) : fitE size l = 0 := by
  unfold fitE
  rw [if_neg, if_neg (by rw [h2]; simp), if_neg]
  · intro h
    obtain ⟨s, hs, h4⟩ := List.any_eq_true.1 h
    have := h3 s hs
    simp [this] at h4
  · intro h
    obtain ⟨s, hs, h4⟩ := List.any_eq_true.1 h
    rw [h1 s hs] at h4
    cases h4
set_option maxRecDepth 100000 in
set_option maxHeartbeats 4000000 in
theorem maytable_any (size : Int) (B : Option Addr) (d : Nat) (l : List SV) (w : World) (hl : RdS w B l) (hok : ∀ s ∈ l, s.Ok) (hn : l.length ≤ 9223372036854775807) :
    Calls Try.prog 41 #[.agg #[.int .i64 size, .slice B l.length d]] w fun x w' => x = .returned (.bool (mtB size l)) ∧ Below w.heap.size w w' := by
  have hbl0 := bl_a (Below.refl w.heap.size w) (.cells #[.int .i64 size, .slice B l.length d] 35)
  have HFI := Lib.hid (fit_any size B d l _ (hl.below hbl0) hok hn)
  by_cases hlen : l.length ≤ 4096
  · have hd : (((fitE size l : Nat) : Int) == 0) = mtB size l := by
      unfold mtB
      rw [Bool.eq_iff_iff]
      simp [hlen]
    have HD := Lib.hid hd
    clear hd
    go_enter Try.func41, Try.ntmps41
    go_wp2_with fail
    refine HFI.out.mono ?_
    rintro x w1 ⟨rfl, hb1⟩
    go_wp2
    go_ret
    exact ⟨by rw [← HD.out]; rfl, bl_t hbl0 hb1⟩
  · have hlen2 : 4096 < l.length := by omega
    have HP : Hid (mtB size l = false) := by unfold Hid mtB; simp [hlen]
    clear hlen
    go_enter Try.func41, Try.ntmps41
    go_wp2
    go_ret
    exact ⟨by rw [HP.out]; rfl, hbl0⟩
set_option maxRecDepth 100000 in
set_option maxHeartbeats 4000000 in
theorem rmaytable_any (size : Int) (B : Option Addr) (d : Nat) (l : List SV) (w : World) (hl : RdS w B l) (hok : ∀ s ∈ l, s.Ok) (hn : l.length ≤ 9223372036854775807) :
    Calls Try.prog 19 #[.agg #[.int .i64 size, .slice B l.length d]] w fun x w' => x = .returned (.bool (mtB size l)) ∧ Below w.heap.size w w' := by
  have hbl0 := bl_a (Below.refl w.heap.size w) (.cells #[.int .i64 size, .slice B l.length d] 35)
  have hbx0 := ha_new w (.cells #[.int .i64 size, .slice B l.length d] 35) w.heap.size rfl
  by_cases h0 : size < 0
  · have HP : Hid (mtB size l = false) := by
      unfold Hid
      apply Bool.eq_false_iff.2
      intro h
      have h2 := (fitE_zero (mtB_true h).2).2.1
      unfold szB at h2
      simp at h2
      omega
    go_enter Try.func19, Try.ntmps19
    go_wp2
    go_ret
    exact ⟨by rw [HP.out]; rfl, hbl0⟩
  · have h0' : 0 ≤ size := by omega
    by_cases h1 : 4096 < size
    · have HP : Hid (mtB size l = false) := by
        unfold Hid
        apply Bool.eq_false_iff.2
        intro h
        have h2 := (fitE_zero (mtB_true h).2).2.1
        unfold szB at h2
        simp at h2
        omega
      clear h0
      go_enter Try.func19, Try.ntmps19
      go_wp2
      go_ret
      exact ⟨by rw [HP.out]; rfl, hbl0⟩
    · have h1' : size ≤ 4096 := by omega
      by_cases hlen : l.length ≤ 4096
      · have HOK := Lib.hid hok
        clear h0 h1 hok
        go_enter Try.func19, Try.ntmps19
        go_wp2
        go_loopw [3] (fun i wr => ∃ j : Nat, i = .int .i64 j ∧ j ≤ l.length ∧ (∀ k, k < j → mayB (sd l k).sz (sd l k).ws = true ∧ (sd l k).sz = size) ∧ wr.heap[w.heap.size]? = some (.cells #[.int .i64 size, .slice B l.length d] 35 (0, 0)) ∧ Below w.heap.size w wr) (fun i _ => l.length - (intOf i).toNat)
        case atStart => exact ⟨0, rfl, Nat.zero_le _, fun k hk => by omega, hbx0, hbl0⟩
        case round =>
          obtain ⟨j, rfl, hj, hall, hbx, hb⟩ := hrel
          have HALL := Lib.hid hall
          obtain ⟨p0, p1, f0, f1, hg⟩ := blk2 hbx
          have HBX := Lib.hid (And.intro hbx hb)
          by_cases hlt2 : j < l.length
          · have hlb := hl.below hb
            obtain ⟨b, off, rfl, hblt, g1, g2, g3⟩ := hlb j hlt2
            have hsok := HOK.out _ (sd_mem hlt2)
            have hmem := sd_mem hlt2
            obtain ⟨s, hs⟩ : ∃ s, s = sd l j := ⟨_, rfl⟩
            rw [← hs] at g1 g2 g3 hsok hmem
            have hmay := fun W hW => rmay_any s.sz s.A s.c s.ws W hW hsok.lt (by have := hsok.len; omega)
            have HR := Lib.hid (fun W (hW : Below wr.heap.size wr W) => g3.below hW)
            have HS := Lib.hid (And.intro hs hmem)
            have hi0 : (0 : Int) ≤ (j : Int) := by omega
            have hi1 : (j : Int) < (l.length : Int) := by omega
            have hSK : ∀ W W1 : World, (W.cell? ⟨w.heap.size, 0, none⟩ = some (.int .i64 size) ∧ W.cell? ⟨w.heap.size, 1, none⟩ = some (.slice (some ⟨b, off, none⟩) l.length d) ∧ W.cell? ⟨b, off + j * 2, none⟩ = some (.int .i64 s.sz) ∧ W.cell? ⟨b, off + j * 2 + 1, none⟩ = some (.slice s.A s.ws.length s.c) ∧ Below wr.heap.size wr W) → Below W.heap.size W W1 → (W1.cell? ⟨w.heap.size, 0, none⟩ = some (.int .i64 size) ∧ W1.cell? ⟨w.heap.size, 1, none⟩ = some (.slice (some ⟨b, off, none⟩) l.length d) ∧ W1.cell? ⟨b, off + j * 2, none⟩ = some (.int .i64 s.sz) ∧ W1.cell? ⟨b, off + j * 2 + 1, none⟩ = some (.slice s.A s.ws.length s.c) ∧ Below wr.heap.size wr W1) := by
              rintro W W1 ⟨x1, x2, x3, x4, x5⟩ hb'
              have hz := x5.size
              exact ⟨(hb'.cell (p := ⟨_, 0, none⟩) (by dsimp only; omega)).trans x1, (hb'.cell (p := ⟨_, 1, none⟩) (by dsimp only; omega)).trans x2, (hb'.cell (p := ⟨_, off + j * 2, none⟩) (by dsimp only; omega)).trans x3, (hb'.cell (p := ⟨_, off + j * 2 + 1, none⟩) (by dsimp only; omega)).trans x4, bl_t x5 hb'⟩
            have SKH := Lib.hid hSK
            clear hs hsok hmem hall hbx hb hlb g3 hSK
            by_cases hgood : mayB s.sz s.ws = true ∧ s.sz = size
            · have hm := hgood.1
              have hsz : (s.sz != size) = false := by rw [bne_eq_false_iff_eq]; exact hgood.2
              rw [hm] at hmay
              have HMAY := Lib.hid hmay
              have HG := Lib.hid hgood
              clear hm hgood hmay
              go_wp2
              go_region_held3 (fun W => W.cell? ⟨w.heap.size, 0, none⟩ = some (.int .i64 size) ∧ W.cell? ⟨w.heap.size, 1, none⟩ = some (.slice (some ⟨b, off, none⟩) l.length d) ∧ W.cell? ⟨b, off + j * 2, none⟩ = some (.int .i64 s.sz) ∧ W.cell? ⟨b, off + j * 2 + 1, none⟩ = some (.slice s.A s.ws.length s.c) ∧ Below wr.heap.size wr W)
                (first | exact ⟨p0, p1, g1, g2, bl_d (Below.refl _ _)⟩ | exact SKH.out _ _ (by assumption) (by assumption))
                (first | (go_at_call 20; refine (HMAY.out _ (HR.out _ (And.right (And.right (And.right (And.right (by assumption))))))).mono ?_; rintro x w1 ⟨rfl, hb1⟩))
              rename_i hH
              obtain ⟨_, _, _, _, hbw⟩ := hH
              have HBW := Lib.hid hbw
              clear hbw p0 p1 g1 g2 f0 f1 hg
              go_wp2
              go_roundw
              case rel => exact ⟨j + 1, by go_num, by omega, fun k hk => by
                by_cases h : k = j
                · rw [h, ← HS.out.1]; exact HG.out
                · exact HALL.out k (by omega), (HBW.out.block _ (blk_lt HBX.out.1)).trans HBX.out.1, bl_t HBX.out.2 HBW.out⟩
              case measure => simp [intOf]; omega
            · have HP : Hid (mtB size l = false) := by
                unfold Hid
                apply Bool.eq_false_iff.2
                intro h
                obtain ⟨x1, x2, x3⟩ := fitE_zero (mtB_true h).2
                exact hgood ⟨x1 _ HS.out.2, x3 _ HS.out.2⟩
              cases hm : mayB s.sz s.ws with
              | false =>
                rw [hm] at hmay
                have HMAY := Lib.hid hmay
                clear hm hgood hmay
                go_wp2
                first
                  | (go_region_with (go_at_call 20; refine (HMAY.out _ (HR.out _ (bl_d (Below.refl _ _)))).mono ?_; rintro x w1 ⟨rfl, hb1⟩))
                  | fail
                all_goals
                  have hbw := bl_t (bl_d (Below.refl wr.heap.size wr)) hb1
                  have HBW := Lib.hid hbw
                  clear hbw p0 p1 g1 g2 f0 f1 hg
                  go_wp2
                  go_ret
                  exact ⟨by rw [HP.out]; rfl, bl_t HBX.out.2 HBW.out⟩
              | true =>
                have hsz : (s.sz != size) = true := by rw [bne_iff_ne]; intro h; exact hgood ⟨hm, h⟩
                rw [hm] at hmay
                have HMAY := Lib.hid hmay
                clear hm hgood hmay
                go_wp2
                go_region_held3 (fun W => W.cell? ⟨w.heap.size, 0, none⟩ = some (.int .i64 size) ∧ W.cell? ⟨w.heap.size, 1, none⟩ = some (.slice (some ⟨b, off, none⟩) l.length d) ∧ W.cell? ⟨b, off + j * 2, none⟩ = some (.int .i64 s.sz) ∧ W.cell? ⟨b, off + j * 2 + 1, none⟩ = some (.slice s.A s.ws.length s.c) ∧ Below wr.heap.size wr W)
                  (first | exact ⟨p0, p1, g1, g2, bl_d (Below.refl _ _)⟩ | exact SKH.out _ _ (by assumption) (by assumption))
                  (first | (go_at_call 20; refine (HMAY.out _ (HR.out _ (And.right (And.right (And.right (And.right (by assumption))))))).mono ?_; rintro x w1 ⟨rfl, hb1⟩))
                rename_i hH
                obtain ⟨_, _, _, _, hbw⟩ := hH
                have HBW := Lib.hid hbw
                clear hbw p0 p1 g1 g2 f0 f1 hg
                go_wp2
                go_ret
                exact ⟨by rw [HP.out]; rfl, bl_t HBX.out.2 HBW.out⟩
          · have hlj : l.length ≤ j := by omega
            have HP : Hid (mtB size l = true) := by
              unfold Hid mtB
              have h2 : szB size = true := by unfold szB; simp; omega
              have h3 : ∀ s ∈ l, mayB s.sz s.ws = true ∧ s.sz = size := by
                intro s hs
                obtain ⟨k, hk, rfl⟩ := List.mem_iff_getElem.1 hs
                have := HALL.out k (by omega)
                rw [sd_lt hk] at this
                exact this
              rw [fitE_of (fun s hs => (h3 s hs).1) h2 (fun s hs => (h3 s hs).2)]
              simp [hlen]
            clear hall hbx hb hlt2
            go_wp2
            go_ret
            exact ⟨by rw [HP.out]; rfl, HBX.out.2⟩
      · have hlen2 : 4096 < l.length := by omega
        have HP : Hid (mtB size l = false) := by unfold Hid mtB; simp [hlen]
        clear h0 h1 hlen
        go_enter Try.func19, Try.ntmps19
        go_wp2
        go_ret
        exact ⟨by rw [HP.out]; rfl, hbl0⟩
end Go.Proofs.Ytlmjfcieiengcaa
