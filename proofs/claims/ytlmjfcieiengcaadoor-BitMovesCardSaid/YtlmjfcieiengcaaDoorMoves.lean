/- slopelaw3.BitMoves returns true, the table lying in its variable. The words are words; the lengths are ones that slices can have. -/
import Derived.Test.YtlmjfcieiengcaaDoorRMove
import Derived.Test.YtlmjfcieiengcaaDoorRShift
namespace Go.Proofs.YtlmjfcieiengcaaDoor
open Go.RowKit
def AnsW (an : SA) (z : Int) (l : List Nat) (e : Int) : Prop := match an with
  | .err k => z = 0 ∧ l = [] ∧ e = k
  | .set n f => z = n ∧ Ws l n f ∧ e = 0
theorem AnsW.unique {an : SA} {z z' e e' : Int} {l l' : List Nat} (h : AnsW an z l e) (h' : AnsW an z' l' e') : z' = z ∧ l' = l ∧ e' = e := by
  cases an with
  | err k =>
    obtain ⟨rfl, rfl, rfl⟩ := h
    exact h'
  | set n f =>
    obtain ⟨rfl, h1, rfl⟩ := h
    obtain ⟨rfl, h2, rfl⟩ := h'
    exact ⟨rfl, h2.unique h1 (fun _ _ => rfl), rfl⟩
def SA.size : SA → Nat
  | .err _ => 0
  | .set n _ => n
theorem AnsW.len {an : SA} {z e : Int} {l : List Nat} (h : AnsW an z l e) (hn : an.size ≤ 4096) : l.length ≤ 64 := by
  cases an with
  | err k =>
    obtain ⟨rfl, rfl, rfl⟩ := h
    simp
  | set n f =>
    obtain ⟨rfl, h1, rfl⟩ := h
    simp only [SA.size] at hn
    rw [h1.len, nw_eq]
    omega
theorem sapost_out {an : SA} {w w' : World} {x : Ending} (h : SAPost an w x w') : ∃ z l A e, x = .returned (.tuple #[.agg #[.int .i64 z, .slice A l.length l.length], .int .i64 e]) ∧ Rd w' A l ∧ AnsW an z l e ∧ Below w.heap.size w w' := by
  obtain ⟨hb, h⟩ := h
  cases an with
  | err k => exact ⟨0, [], none, k, h, RdK.nil _ _ _, ⟨rfl, rfl, rfl⟩, hb⟩
  | set n f =>
    obtain ⟨g, ws, hx, _, hwb, hws⟩ := h
    exact ⟨n, ws, some ⟨g, 0, none⟩, 0, hx, hwb.rd, ⟨rfl, hws, rfl⟩, hb⟩
theorem shspec_size (sz : Int) (ws : List Nat) (n : Int) : (shspec sz ws n).size ≤ 4096 := by
  unfold shspec
  split
  · simp [SA.size]
  · rename_i h
    have : MayP sz ws := by
      unfold mayB at h
      simpa using h
    have h2 := this.2.1
    simp only [SA.size]
    omega
theorem mvgo_size (size : Int) (ws : List Nat) (hs : size ≤ 4096) : ∀ (l : List Int) (e : Nat) (f : Nat → Bool), (mvgo size ws e l f).size ≤ 4096 := by
  intro l
  induction l with
  | nil => intro e f; simp only [mvgo, SA.size]; omega
  | cons x l ih =>
    intro e f
    rw [mvgo]
    split
    · simp [SA.size]
    · exact ih _ _
theorem mvspec_size (sz : Int) (ws : List Nat) (size : Int) (zs : List Int) : (mvspec sz ws size zs).size ≤ 4096 := by
  unfold mvspec
  split
  · simp [SA.size]
  · split
    · simp [SA.size]
    · rename_i h
      split
      · simp [SA.size]
      · exact mvgo_size _ _ (by unfold szB at h; simp at h; omega) _ _ _
set_option maxHeartbeats 10000000 in
set_option maxRecDepth 100000 in
theorem moves_walk (sz n size : Int) (A B : Option Addr) (c d : Nat) (ws : List Nat) (zs : List Int) (w : World) (hr : Rd w A ws) (hlt : ∀ j, wd ws j < 18446744073709551616) (hA : A = none → ws.length = 0 ∧ c = 0) (hl : ws.length ≤ 17592186044415)
    (hz : RdI w B zs) (hB : B = none → zs.length = 0 ∧ d = 0) (hlz : zs.length ≤ 17592186044415) (hT : TabOk w) :
    Calls Tryd.prog 3 #[.agg #[.int .i64 sz, .slice A ws.length c], .int .i64 n, .int .i64 size, .slice B zs.length d] w fun x w' => x = .returned (.bool true) ∧ Below w.heap.size w w' := by
  have h63 : ws.length ≤ 9223372036854775807 := by omega
  have hz63 : zs.length ≤ 9223372036854775807 := by omega
  have hbl0 := bl_a (Below.refl w.heap.size w) (.cells #[.int .i64 sz, .slice A ws.length c] 24)
  have hbx0 := ha_new w (.cells #[.int .i64 sz, .slice A ws.length c] 24) w.heap.size rfl
  go_enter Tryd.func3, Tryd.ntmps3
  go_wp2_with fail
  refine (twin_any sz A c ws _ (hr.below hbl0) hA hl).mono ?_
  rintro x w1 ⟨gu, cu, rfl, hgu, hcu, hwu, hb1⟩
  have hbx1 := (hb1.block _ (blk_lt hbx0)).trans hbx0
  have hbl1 := bl_a (bl_t hbl0 hb1) (.cells #[.int .i64 sz, .slice (some ⟨gu, 0, none⟩) ws.length cu] 24)
  have hu1 := ha_new w1 (.cells #[.int .i64 sz, .slice (some ⟨gu, 0, none⟩) ws.length cu] 24) w1.heap.size rfl
  have hbx1' := (ha_old w1 (.cells #[.int .i64 sz, .slice (some ⟨gu, 0, none⟩) ws.length cu] 24) _ (blk_lt hbx1)).trans hbx1
  have hwu1 := hwu.alloc (.cells #[.int .i64 sz, .slice (some ⟨gu, 0, none⟩) ws.length cu] 24)
  go_wp2_with fail
  refine (lent_any B d zs _ (hz.below hbl1) hB hlz).mono ?_
  rintro x w2 ⟨gl, cl, rfl, hgl, hcl, hil, hb2⟩
  have hu2 := (hb2.block _ (blk_lt hu1)).trans hu1
  have hbx2 := (hb2.block _ (blk_lt hbx1')).trans hbx1'
  have hwu2 := hwu1.below hb2
  have hbl2 := bl_t hbl1 hb2
  obtain ⟨p0, p1, f0, f1, hg1⟩ := blk2 hu2
  go_wp2_with fail
  refine (shift_any sz n (some ⟨gu, 0, none⟩) cu ws _ hwu2.rd.pre hlt (fun h => by cases h) h63 (hT.below hbl2)).mono ?_
  rintro x w3 hpost
  obtain ⟨z1, l1, A1, e1, rfl, hrd1, han1, hb3⟩ := sapost_out hpost
  have hbx2a := hbx2
  have hbl3 := bl_a (bl_t hbl2 hb3) (.cells #[.int .i64 z1, .slice A1 l1.length l1.length] 24)
  have hu3 := (ha_old w3 (.cells #[.int .i64 z1, .slice A1 l1.length l1.length] 24) _ (blk_lt ((hb3.block _ (blk_lt hu2)).trans hu2))).trans ((hb3.block _ (blk_lt hu2)).trans hu2)
  have hbx3 := (ha_old w3 (.cells #[.int .i64 z1, .slice A1 l1.length l1.length] 24) _ (blk_lt ((hb3.block _ (blk_lt hbx2)).trans hbx2))).trans ((hb3.block _ (blk_lt hbx2)).trans hbx2)
  have hv3 := ha_new w3 (.cells #[.int .i64 z1, .slice A1 l1.length l1.length] 24) w3.heap.size rfl
  have hwu3 := (hwu2.below hb3).alloc (.cells #[.int .i64 z1, .slice A1 l1.length l1.length] 24)
  clear p0 p1 f0 f1 hg1
  obtain ⟨p0, p1, f0, f1, hg1⟩ := blk2 hbx3
  go_wp2_with fail
  refine (rshift_any sz n A c ws _ (hr.below hbl3) hlt h63).mono ?_
  rintro x w4 hpost2
  obtain ⟨z2, l2, A2, e2, rfl, hrd2, han2, hb4⟩ := sapost_out hpost2
  obtain ⟨rfl, rfl, rfl⟩ := han1.unique han2
  have hbl4 := bl_a (bl_t hbl3 hb4) (.cells #[.int .i64 z2, .slice A2 l2.length l2.length] 24)
  have hu4 := (ha_old w4 (.cells #[.int .i64 z2, .slice A2 l2.length l2.length] 24) _ (blk_lt ((hb4.block _ (blk_lt hu3)).trans hu3))).trans ((hb4.block _ (blk_lt hu3)).trans hu3)
  have hbx4 := (ha_old w4 (.cells #[.int .i64 z2, .slice A2 l2.length l2.length] 24) _ (blk_lt ((hb4.block _ (blk_lt hbx3)).trans hbx3))).trans ((hb4.block _ (blk_lt hbx3)).trans hbx3)
  have hv4 := (ha_old w4 (.cells #[.int .i64 z2, .slice A2 l2.length l2.length] 24) _ (blk_lt ((hb4.block _ (blk_lt hv3)).trans hv3))).trans ((hb4.block _ (blk_lt hv3)).trans hv3)
  have hy4 := ha_new w4 (.cells #[.int .i64 z2, .slice A2 l2.length l2.length] 24) w4.heap.size rfl
  have hwu4 := (hwu3.below hb4).alloc (.cells #[.int .i64 z2, .slice A2 l2.length l2.length] 24)
  clear p0 p1 f0 f1 hg1
  obtain ⟨p0, p1, f0, f1, hg1⟩ := blk2 hu4
  go_wp2_with fail
  refine (move_any sz size (some ⟨gu, 0, none⟩) (some ⟨gl, 0, none⟩) cu cl ws zs _ hwu4.rd.pre hlt h63 ((hil.below (bl_t (bl_a hb3 _) (bl_a hb4 _))).rd.pre) hz63).mono ?_
  rintro x w5 hpost3
  obtain ⟨z3, l3, A3, e3, rfl, hrd3, han3, hb5⟩ := sapost_out hpost3
  have hbl5 := bl_a (bl_t hbl4 hb5) (.cells #[.int .i64 z3, .slice A3 l3.length l3.length] 24)
  have hu5 := (ha_old w5 (.cells #[.int .i64 z3, .slice A3 l3.length l3.length] 24) _ (blk_lt ((hb5.block _ (blk_lt hu4)).trans hu4))).trans ((hb5.block _ (blk_lt hu4)).trans hu4)
  have hbx5 := (ha_old w5 (.cells #[.int .i64 z3, .slice A3 l3.length l3.length] 24) _ (blk_lt ((hb5.block _ (blk_lt hbx4)).trans hbx4))).trans ((hb5.block _ (blk_lt hbx4)).trans hbx4)
  have hv5 := (ha_old w5 (.cells #[.int .i64 z3, .slice A3 l3.length l3.length] 24) _ (blk_lt ((hb5.block _ (blk_lt hv4)).trans hv4))).trans ((hb5.block _ (blk_lt hv4)).trans hv4)
  have hy5 := (ha_old w5 (.cells #[.int .i64 z3, .slice A3 l3.length l3.length] 24) _ (blk_lt ((hb5.block _ (blk_lt hy4)).trans hy4))).trans ((hb5.block _ (blk_lt hy4)).trans hy4)
  have hp5 := ha_new w5 (.cells #[.int .i64 z3, .slice A3 l3.length l3.length] 24) w5.heap.size rfl
  have hwu5 := (hwu4.below hb5).alloc (.cells #[.int .i64 z3, .slice A3 l3.length l3.length] 24)
  clear p0 p1 f0 f1 hg1
  obtain ⟨p0, p1, f0, f1, hg1⟩ := blk2 hbx5
  go_wp2_with fail
  refine (rmove_any sz size A B c d ws zs _ (hr.below hbl5) hlt h63 (hz.below hbl5) hz63).mono ?_
  rintro x w6 hpost4
  obtain ⟨z4, l4, A4, e4, rfl, hrd4, han4, hb6⟩ := sapost_out hpost4
  obtain ⟨rfl, rfl, rfl⟩ := han3.unique han4
  have hbl6 := bl_a (bl_t hbl5 hb6) (.cells #[.int .i64 z4, .slice A4 l4.length l4.length] 24)
  have hu6 := (ha_old w6 (.cells #[.int .i64 z4, .slice A4 l4.length l4.length] 24) _ (blk_lt ((hb6.block _ (blk_lt hu5)).trans hu5))).trans ((hb6.block _ (blk_lt hu5)).trans hu5)
  have hbx6 := (ha_old w6 (.cells #[.int .i64 z4, .slice A4 l4.length l4.length] 24) _ (blk_lt ((hb6.block _ (blk_lt hbx5)).trans hbx5))).trans ((hb6.block _ (blk_lt hbx5)).trans hbx5)
  have hv6 := (ha_old w6 (.cells #[.int .i64 z4, .slice A4 l4.length l4.length] 24) _ (blk_lt ((hb6.block _ (blk_lt hv5)).trans hv5))).trans ((hb6.block _ (blk_lt hv5)).trans hv5)
  have hy6 := (ha_old w6 (.cells #[.int .i64 z4, .slice A4 l4.length l4.length] 24) _ (blk_lt ((hb6.block _ (blk_lt hy5)).trans hy5))).trans ((hb6.block _ (blk_lt hy5)).trans hy5)
  have hp6 := (ha_old w6 (.cells #[.int .i64 z4, .slice A4 l4.length l4.length] 24) _ (blk_lt ((hb6.block _ (blk_lt hp5)).trans hp5))).trans ((hb6.block _ (blk_lt hp5)).trans hp5)
  have hq6 := ha_new w6 (.cells #[.int .i64 z4, .slice A4 l4.length l4.length] 24) w6.heap.size rfl
  have hwu6 := (hwu5.below hb6).alloc (.cells #[.int .i64 z4, .slice A4 l4.length l4.length] 24)
  clear p0 p1 f0 f1 hg1
  have c6 := bl_t (bl_a (Below.refl w5.heap.size w5) (.cells #[.int .i64 z4, .slice A3 l4.length l4.length] 24)) (bl_a hb6 (.cells #[.int .i64 z4, .slice A4 l4.length l4.length] 24))
  have c5 := bl_t (bl_t (bl_a (Below.refl w4.heap.size w4) (.cells #[.int .i64 z2, .slice A2 l2.length l2.length] 24)) hb5) c6
  have c4 := bl_t (bl_t (bl_a (Below.refl w3.heap.size w3) (.cells #[.int .i64 z2, .slice A1 l2.length l2.length] 24)) hb4) c5
  have c3 := bl_t hb3 c4
  have hlen1 := han1.len (shspec_size _ _ _)
  have hlen3 := han3.len (mvspec_size _ _ _ _)
  have hsb1 : sameB z2 z2 l2 l2 = true := by unfold sameB; simp
  have hsb2 : sameB z4 z4 l4 l4 = true := by unfold sameB; simp
  have hil6 := hil.below c3
  have hrd16 := hrd1.below c4
  have hrd26 := hrd2.below c5
  have hrd36 := hrd3.below c6
  have hrd46 := hrd4.below (bl_a (Below.refl w6.heap.size w6) (.cells #[.int .i64 z4, .slice A4 l4.length l4.length] 24))
  have HAN := Lib.hid (And.intro han1 han3)
  clear han1 han2 han3 han4 hpost hpost2 hpost3 hpost4
  obtain ⟨p0, p1, f0, f1, hg1⟩ := blk2 hv6
  obtain ⟨y0, y1, m0, m1, hg2⟩ := blk2 hy6
  go_wp2_with fail
  refine (same_any z2 z2 A1 A2 l2.length l2.length l2 l2 _ hrd16 hrd26 (by omega)).mono ?_
  rw [hsb1]
  rintro x w7 ⟨rfl, hb7⟩
  clear p0 p1 f0 f1 hg1 y0 y1 m0 m1 hg2
  obtain ⟨p0, p1, f0, f1, hg1⟩ := blk2 ((hb7.block _ (blk_lt hp6)).trans hp6)
  obtain ⟨y0, y1, m0, m1, hg2⟩ := blk2 ((hb7.block _ (blk_lt hq6)).trans hq6)
  go_wp2_with (go_at_call 20; refine (num_any _ _).mono ?_; rintro e' w' ⟨rfl, rfl⟩)
  refine (same_any z4 z4 A3 A4 l4.length l4.length l4 l4 _ (hrd36.below hb7) (hrd46.below hb7) (by omega)).mono ?_
  rw [hsb2]
  rintro x w8 ⟨rfl, hb8⟩
  have hb78 := bl_t hb7 hb8
  clear p0 p1 f0 f1 hg1 y0 y1 m0 m1 hg2
  obtain ⟨p0, p1, f0, f1, hg1⟩ := blk2 ((hb78.block _ (blk_lt hu6)).trans hu6)
  obtain ⟨y0, y1, m0, m1, hg2⟩ := blk2 ((hb78.block _ (blk_lt hbx6)).trans hbx6)
  have hbl8 := bl_t hbl6 hb78
  go_wp2_with (go_at_call 20; refine (num_any _ _).mono ?_; rintro e' w' ⟨rfl, rfl⟩)
  refine (kept_any sz A c gu cu ws _ (hwu6.below hb78) hcu (hr.below hbl8) hl).mono ?_
  rintro x w9 ⟨rfl, hb9⟩
  clear p0 p1 f0 f1 hg1 y0 y1 m0 m1 hg2
  have hbl9 := bl_t hbl8 hb9
  go_wp2_with fail
  refine (back_any B d gl cl zs _ ((hil6.below hb78).below hb9) hcl (hz.below hbl9) hlz).mono ?_
  rintro x w10 ⟨rfl, hb10⟩
  go_wp2
  go_ret
  exact ⟨rfl, bl_t hbl9 hb10⟩
end Go.Proofs.YtlmjfcieiengcaaDoor
