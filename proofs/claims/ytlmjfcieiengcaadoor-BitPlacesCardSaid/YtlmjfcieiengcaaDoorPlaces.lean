/- slopelaw3.BitPlaces returns true, the table lying in its variable. The words are words; the length is one that a slice can have. -/
import Derived.Test.YtlmjfcieiengcaaDoorRPlaces
import Derived.Test.YtlmjfcieiengcaaDoorTwin
namespace Go.Proofs.YtlmjfcieiengcaaDoor
open Go.RowKit
set_option maxRecDepth 100000 in
set_option maxHeartbeats 10000000 in
theorem places_walk (sz e : Int) (A : Option Addr) (c : Nat) (ws : List Nat) (w : World) (hr : Rd w A ws) (hlt : ∀ j, wd ws j < 18446744073709551616) (hA : A = none → ws.length = 0 ∧ c = 0) (hl : ws.length ≤ 17592186044415) (hT : TabOk w) (he : e ≤ 9223372036854775807) :
    Calls Tryd.prog 4 #[.agg #[.int .i64 sz, .slice A ws.length c], .int .i64 e] w fun x w' => x = .returned (.bool true) ∧ Below w.heap.size w w' := by
  have h63 : ws.length ≤ 9223372036854775807 := by omega
  have HE := Lib.hid he
  clear he
  have hbl0 := bl_a (Below.refl w.heap.size w) (.cells #[.int .i64 sz, .slice A ws.length c] 24)
  have hbx0 := ha_new w (.cells #[.int .i64 sz, .slice A ws.length c] 24) w.heap.size rfl
  go_enter Tryd.func4, Tryd.ntmps4
  go_wp2_with fail
  refine (twin_any sz A c ws _ (hr.below hbl0) hA hl).mono ?_
  rintro x w1 ⟨gu, cu, rfl, hgu, hcu, hwu, hb1⟩
  have hbx1 := (hb1.block _ (blk_lt hbx0)).trans hbx0
  have hbl1 := bl_a (bl_t hbl0 hb1) (.cells #[.int .i64 sz, .slice (some ⟨gu, 0, none⟩) ws.length cu] 24)
  have hu1 := ha_new w1 (.cells #[.int .i64 sz, .slice (some ⟨gu, 0, none⟩) ws.length cu] 24) w1.heap.size rfl
  have hbx1' := (ha_old w1 (.cells #[.int .i64 sz, .slice (some ⟨gu, 0, none⟩) ws.length cu] 24) _ (blk_lt hbx1)).trans hbx1
  have hwu1 := hwu.alloc (.cells #[.int .i64 sz, .slice (some ⟨gu, 0, none⟩) ws.length cu] 24)
  obtain ⟨p0, p1, f0, f1, hg1⟩ := blk2 hbx1'
  go_wp2_with fail
  refine (rnext_any sz e A c ws _ (hr.below hbl1) hlt h63).mono ?_
  rintro x w2 ⟨rfl, hb2⟩
  have hu2 := (hb2.block _ (blk_lt hu1)).trans hu1
  have hbx2 := (hb2.block _ (blk_lt hbx1')).trans hbx1'
  have hwu2 := hwu1.below hb2
  have hbl2 := bl_t hbl1 hb2
  clear p0 p1 f0 f1 hg1
  obtain ⟨p0, p1, f0, f1, hg1⟩ := blk2 hbx2
  obtain ⟨q0, q1, r0, r1, hg2⟩ := blk2 hu2
  have SK : ∀ W W1 : World, (W.cell? ⟨w.heap.size, 0, none⟩ = some (.int .i64 sz) ∧ W.cell? ⟨w.heap.size, 1, none⟩ = some (.slice A ws.length c) ∧ W.cell? ⟨w1.heap.size, 0, none⟩ = some (.int .i64 sz) ∧ W.cell? ⟨w1.heap.size, 1, none⟩ = some (.slice (some ⟨gu, 0, none⟩) ws.length cu) ∧ w.heap.size < W.heap.size ∧ w1.heap.size < W.heap.size ∧ Below w.heap.size w W ∧ Below w2.heap.size w2 W) → Below W.heap.size W W1 → (W1.cell? ⟨w.heap.size, 0, none⟩ = some (.int .i64 sz) ∧ W1.cell? ⟨w.heap.size, 1, none⟩ = some (.slice A ws.length c) ∧ W1.cell? ⟨w1.heap.size, 0, none⟩ = some (.int .i64 sz) ∧ W1.cell? ⟨w1.heap.size, 1, none⟩ = some (.slice (some ⟨gu, 0, none⟩) ws.length cu) ∧ w.heap.size < W1.heap.size ∧ w1.heap.size < W1.heap.size ∧ Below w.heap.size w W1 ∧ Below w2.heap.size w2 W1) := by
    rintro W W1 ⟨h1, h2, h3, h4, h5, h6, h7, h8⟩ hb
    exact ⟨(hb.cell (p := ⟨w.heap.size, 0, none⟩) h5).trans h1, (hb.cell (p := ⟨w.heap.size, 1, none⟩) h5).trans h2, (hb.cell (p := ⟨w1.heap.size, 0, none⟩) h6).trans h3, (hb.cell (p := ⟨w1.heap.size, 1, none⟩) h6).trans h4, Nat.lt_of_lt_of_le h5 hb.size, Nat.lt_of_lt_of_le h6 hb.size, bl_t h7 hb, bl_t h8 hb⟩
  have HS : ∀ W : World, (W.cell? ⟨w.heap.size, 0, none⟩ = some (.int .i64 sz) ∧ W.cell? ⟨w.heap.size, 1, none⟩ = some (.slice A ws.length c) ∧ W.cell? ⟨w1.heap.size, 0, none⟩ = some (.int .i64 sz) ∧ W.cell? ⟨w1.heap.size, 1, none⟩ = some (.slice (some ⟨gu, 0, none⟩) ws.length cu) ∧ w.heap.size < W.heap.size ∧ w1.heap.size < W.heap.size ∧ Below w.heap.size w W ∧ Below w2.heap.size w2 W) → Rd W A ws ∧ WB W gu (ws ++ [mark]) ∧ TabOk W ∧ Below w.heap.size w W := by
    rintro W ⟨h1, h2, h3, h4, h5, h6, h7, h8⟩
    exact ⟨hr.below h7, hwu2.below h8, hT.below h7, h7⟩
  have HSH := Lib.hid (And.intro SK HS)
  have HR1 := Lib.hid (fun W h => rank_any sz e (some ⟨gu, 0, none⟩) cu ws W (HS W h).2.1.rd.pre hlt h63 (by omega))
  have HR2 := Lib.hid (fun W h => rrank_any sz e A c ws W (HS W h).1 hlt h63)
  have HR3 := Lib.hid (fun W h => select_any sz e (some ⟨gu, 0, none⟩) cu ws W (HS W h).2.1.rd.pre hlt h63 (HS W h).2.2.1 HE.out)
  have HR4 := Lib.hid (fun W h => rselect_any sz e A c ws W (HS W h).1 hlt h63)
  have HR5 := Lib.hid (fun W h => next_any sz e (some ⟨gu, 0, none⟩) cu ws W (HS W h).2.1.rd.pre hlt h63 (by omega) (HS W h).2.2.1)
  have HR6 := Lib.hid (fun W h => last_any sz e (some ⟨gu, 0, none⟩) cu ws W (HS W h).2.1.rd.pre hlt h63 (by omega) (HS W h).2.2.1)
  have HR7 := Lib.hid (fun W h => kept_any sz A c gu cu ws W (HS W h).2.1 hcu (HS W h).1 hl)
  clear SK HS
  go_wp2
  go_region_held3 (fun W => W.cell? ⟨w.heap.size, 0, none⟩ = some (.int .i64 sz) ∧ W.cell? ⟨w.heap.size, 1, none⟩ = some (.slice A ws.length c) ∧ W.cell? ⟨w1.heap.size, 0, none⟩ = some (.int .i64 sz) ∧ W.cell? ⟨w1.heap.size, 1, none⟩ = some (.slice (some ⟨gu, 0, none⟩) ws.length cu) ∧ w.heap.size < W.heap.size ∧ w1.heap.size < W.heap.size ∧ Below w.heap.size w W ∧ Below w2.heap.size w2 W) (first | exact ⟨p0, p1, q0, q1, hg1, hg2, bl_d hbl2, bl_d (Below.refl _ _)⟩ | exact HSH.out.1 _ _ (by assumption) (by assumption))
    (first
      | (go_at_call 24; refine (HR1.out _ (by assumption)).mono ?_; rintro x w1' ⟨rfl, hb1'⟩)
      | (go_at_call 25; refine (HR2.out _ (by assumption)).mono ?_; rintro x w1' ⟨rfl, hb1'⟩)
      | (go_at_call 26; refine (HR3.out _ (by assumption)).mono ?_; rintro x w1' ⟨rfl, hb1'⟩)
      | (go_at_call 27; refine (HR4.out _ (by assumption)).mono ?_; rintro x w1' ⟨rfl, hb1'⟩)
      | (go_at_call 28; refine (HR5.out _ (by assumption)).mono ?_; rintro x w1' ⟨rfl, hb1'⟩)
      | (go_at_call 29; refine (HR6.out _ (by assumption)).mono ?_; rintro x w1' ⟨rfl, hb1'⟩)
      | (go_at_call 21; refine (HR7.out _ (by assumption)).mono ?_; rintro x w1' ⟨rfl, hb1'⟩))
  rename_i hH
  obtain ⟨_, _, _, _, _, _, hbw, _⟩ := hH
  go_wp2
  go_ret
  exact ⟨rfl, hbw⟩
end Go.Proofs.YtlmjfcieiengcaaDoor
