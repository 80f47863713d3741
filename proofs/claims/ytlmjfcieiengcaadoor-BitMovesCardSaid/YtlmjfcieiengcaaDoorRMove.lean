/- sloperef3.Move answers mvspec. The words are words; the lengths are ones that slices can have. -/
import Derived.Test.YtlmjfcieiengcaaDoorMove
namespace Go.Proofs.YtlmjfcieiengcaaDoor
open Go.RowKit
structure LRel (w1 wr : World) (an : SA) (size : Nat) (ws : List Nat) (zs : List Int) (g e : Nat) (f : Nat → Bool) (bs : List Bool) : Prop where
  he : e ≤ zs.length
  an : an = mvgo size ws e (zs.drop e) f
  len : bs.length = size
  set : ∀ j, j < size → bd bs j = f j
  row : BB wr g bs
  b1 : Below w1.heap.size w1 wr
set_option maxHeartbeats 10000000 in
set_option maxRecDepth 100000 in
theorem rmove_any (sz size : Int) (A B : Option Addr) (c d : Nat) (ws : List Nat) (zs : List Int) (w : World) (hr : Rd w A ws) (hlt : ∀ j, wd ws j < 18446744073709551616) (hl : ws.length ≤ 9223372036854775807) (hz : RdI w B zs) (hlz : zs.length ≤ 9223372036854775807) :
    Calls Tryd.prog 18 #[.agg #[.int .i64 sz, .slice A ws.length c], .int .i64 size, .slice B zs.length d] w (SAPost (mvspec sz ws size zs) w) := by
  have HMAY := Lib.hid (fun W hW => rmay_any sz A c ws W hW hlt hl)
  have hbl0 := bl_a (bl_a (Below.refl w.heap.size w) (.cells #[.int .i64 sz, .slice A ws.length c] 24)) (.cells #[.int .i64 0, .slice none 0 0] 24)
  have hbx0 : ((w.alloc (.cells #[.int .i64 sz, .slice A ws.length c] 24)).alloc (.cells #[.int .i64 0, .slice none 0 0] 24)).heap[w.heap.size]? = some (.cells #[.int .i64 sz, .slice A ws.length c] 24 (0, 0)) := (ha_old _ _ _ (by simp)).trans (ha_new _ _ _ rfl)
  have hby0 : ((w.alloc (.cells #[.int .i64 sz, .slice A ws.length c] 24)).alloc (.cells #[.int .i64 0, .slice none 0 0] 24)).heap[w.heap.size + 1]? = some (.cells #[.int .i64 0, .slice none 0 0] 24 (0, 0)) := ha_new _ _ _ (by simp)
  cases hm : mayB sz ws with
  | false =>
    have HP : Hid (mvspec sz ws size zs = .err 61) := by unfold Hid mvspec; rw [if_pos hm]
    have HM := Lib.hid hm
    clear hm
    go_enter Tryd.func18, Tryd.ntmps18
    go_wp2_with fail
    refine (HMAY.out _ (hr.below hbl0)).mono ?_
    rw [HM.out]
    rintro x w1 ⟨rfl, hb1⟩
    have hby1 := (hb1.block _ (blk_lt hby0)).trans hby0
    go_wp2_with fail
    refine (none_any _).mono ?_
    rintro x w5 ⟨rfl, hb5⟩
    have hby5 := (hb5.block _ (blk_lt hby1)).trans hby1
    obtain ⟨p0, p1, f0, f1, hg⟩ := blk2 hby5
    go_wp2
    refine bodyPost_ret (res_ct rfl _ _ (w.heap.size + 1) 24 #[.int .i64 0, .slice none 0 0] (0, 0) _ rfl (hs_same (hs_same hby5 0 _) 1 _) Tryd.underlying24 rfl (by kernel_rfl)) rfl ?_
    rw [HP.out]
    exact ⟨bl_s (bl_s (bl_t (bl_t hbl0 hb1) hb5) (by simp) _) (by simp) _, rfl⟩
  | true =>
    have HM := Lib.hid hm
    clear hm
    cases hs : szB size with
    | false =>
      have HP : Hid (mvspec sz ws size zs = .err 60) := by unfold Hid mvspec; rw [if_neg (by rw [HM.out]; simp), if_pos hs]
      go_enter Tryd.func18, Tryd.ntmps18
      go_wp2_with fail
      refine (HMAY.out _ (hr.below hbl0)).mono ?_
      rw [HM.out]
      rintro x w1 ⟨rfl, hb1⟩
      have hby1 := (hb1.block _ (blk_lt hby0)).trans hby0
      go_wp2_with (go_at_call 73; refine (rsized_any size _).mono ?_; rintro e' w' ⟨rfl, rfl⟩)
      refine (none_any _).mono ?_
      rintro x w5 ⟨rfl, hb5⟩
      have hby5 := (hb5.block _ (blk_lt hby1)).trans hby1
      obtain ⟨p0, p1, f0, f1, hg⟩ := blk2 hby5
      go_wp2
      refine bodyPost_ret (res_ct rfl _ _ (w.heap.size + 1) 24 #[.int .i64 0, .slice none 0 0] (0, 0) _ rfl (hs_same (hs_same hby5 0 _) 1 _) Tryd.underlying24 rfl (by kernel_rfl)) rfl ?_
      rw [HP.out]
      exact ⟨bl_s (bl_s (bl_t (bl_t hbl0 hb1) hb5) (by simp) _) (by simp) _, rfl⟩
    | true =>
      obtain ⟨n, rfl⟩ : ∃ n : Nat, size = n := ⟨size.toNat, by unfold szB at hs; simp at hs; omega⟩
      have hn : n ≤ 4096 := by unfold szB at hs; simp at hs; omega
      by_cases hlen : (zs.length : Int) = sz
      · have hlen' : ((zs.length : Int) != sz) = false := by rw [bne_eq_false_iff_eq]; exact hlen
        have HP : Hid (mvspec sz ws n zs = mvgo n ws 0 zs fun _ => false) := by unfold Hid mvspec; rw [if_neg (by rw [HM.out]; simp), if_neg (by rw [hs]; simp), if_neg (by simpa using hlen)]
        have hmp : MayP sz ws := by
          have := HM.out
          unfold mayB at this
          simpa using this
        have hwl : ws.length = nw zs.length := by have := hmp.2.2.1; rw [this]; congr 1; omega
        have HWL := Lib.hid hwl
        have hzl : zs.length ≤ 4096 := by have := hmp.2.1; omega
        have HLEN := Lib.hid hlen
        clear hmp hlen hwl
        have hmk := mk_bools n (by omega)
        go_enter Tryd.func18, Tryd.ntmps18
        go_wp2_with fail
        refine (HMAY.out _ (hr.below hbl0)).mono ?_
        rw [HM.out]
        rintro x w1 ⟨rfl, hb1⟩
        have hbx1 := (hb1.block _ (blk_lt hbx0)).trans hbx0
        have hby1 := (hb1.block _ (blk_lt hby0)).trans hby0
        obtain ⟨q0, q1, r0, r1, hg1⟩ := blk2 hbx1
        go_wp2_with (go_at_call 73; refine (rsized_any n _).mono ?_; rintro e' w' ⟨rfl, rfl⟩)
        have HX1 := Lib.hid hbx1
        have HY1 := Lib.hid hby1
        have HMK := Lib.hid hmk
        clear q0 q1 r0 r1 hbx0 hby0 hbx1 hby1 hmk
        go_loopw [9] (fun i wr => ∃ (e : Nat) (f : Nat → Bool) (bs : List Bool), i = .int .i64 e ∧ LRel w1 wr (mvspec sz ws n zs) n ws zs w1.heap.size e f bs) (fun i _ => zs.length - (intOf i).toNat)
        case atStart =>
          exact ⟨0, fun _ => false, List.replicate n false, rfl, ⟨by omega, by rw [HP.out, List.drop_zero], by simp, fun j _ => bd_replicate _ _, BB.made _ _, bl_a (Below.refl _ _) _⟩⟩
        case round =>
          obtain ⟨e, f, bs, rfl, hR⟩ := hrel
          have he := hR.he
          have hbx := (hR.b1.block _ (blk_lt HX1.out)).trans HX1.out
          have hby := (hR.b1.block _ (blk_lt HY1.out)).trans HY1.out
          obtain ⟨q0, q1, r0, r1, hgx⟩ := blk2 hbx
          have hblw : Below w.heap.size w wr := bl_t (bl_t hbl0 hb1) hR.b1
          by_cases hlt2 : e < zs.length
          · obtain ⟨b, off, rfl, hblt, hcell⟩ := hz e hlt2
            have hcz := (hblw.cell (p := ⟨b, off + e, none⟩) hblt).trans hcell
            have hbw : b < wr.heap.size := Nat.lt_of_lt_of_le hblt hblw.size
            have hst := mvgo_step (size := n) (ws := ws) (f := f) hlt2
            rw [← hR.an] at hst
            obtain ⟨X, hX⟩ : ∃ X, X = zd zs e := ⟨_, rfl⟩
            rw [← hX] at hcz hst
            have HCZ0 := Lib.hid hcell
            have HST := Lib.hid hst
            have HX := Lib.hid hX
            clear hst hX hcell
            have HIN := Lib.hid (fun W hW => rin_any sz A c e ws W hW hlt (by rw [HWL.out, nw_eq]; omega) (by rw [HWL.out, nw_eq]; omega))
            by_cases hbad : X < -1 ∨ (n : Int) ≤ X
            · have HQ : Hid (mvspec sz ws n zs = .err 62) := by unfold Hid; rw [HST.out, if_pos hbad]
              by_cases hX1 : X < -1
              all_goals
                have HBAD := Lib.hid hbad
                have hX2 : (n : Int) ≤ X ∨ X < -1 := by omega
                clear hbad
              · clear hX2
                go_wp2_with fail
                refine (none_any _).mono ?_
                rintro x w5 ⟨rfl, hb5⟩
                have hby5 := (hb5.block _ (blk_lt hby)).trans hby
                obtain ⟨p0, p1, f0, f1, hg⟩ := blk2 hby5
                go_wp2
                refine bodyPost_ret (res_ct rfl _ _ (w.heap.size + 1) 24 #[.int .i64 0, .slice none 0 0] (0, 0) _ rfl (hs_same (hs_same hby5 0 _) 1 _) Tryd.underlying24 rfl (by kernel_rfl)) rfl ?_
                rw [HQ.out]
                exact ⟨bl_s (bl_s (bl_t hblw hb5) (by simp) _) (by simp) _, rfl⟩
              · have hX3 : (n : Int) ≤ X := by omega
                clear hX2
                go_wp2_with fail
                refine (none_any _).mono ?_
                rintro x w5 ⟨rfl, hb5⟩
                have hby5 := (hb5.block _ (blk_lt hby)).trans hby
                obtain ⟨p0, p1, f0, f1, hg⟩ := blk2 hby5
                go_wp2
                refine bodyPost_ret (res_ct rfl _ _ (w.heap.size + 1) 24 #[.int .i64 0, .slice none 0 0] (0, 0) _ rfl (hs_same (hs_same hby5 0 _) 1 _) Tryd.underlying24 rfl (by kernel_rfl)) rfl ?_
                rw [HQ.out]
                exact ⟨bl_s (bl_s (bl_t hblw hb5) (by simp) _) (by simp) _, rfl⟩
            · by_cases hx0 : 0 ≤ X
              · obtain ⟨x, rfl⟩ : ∃ x : Nat, X = x := ⟨X.toNat, by omega⟩
                have hxn : x < n := by omega
                have hxm : ¬ (x : Int) < -1 := by omega
                have HBAD := Lib.hid hbad
                have hlen := hR.len
                clear hbad hx0
                cases hmem : mem ws e with
                | true =>
                  have HQ : Hid (mvspec sz ws n zs = mvgo n ws (e + 1) (zs.drop (e + 1)) (fun y => f y || decide (y = x))) := by
                    unfold Hid
                    rw [HST.out, if_neg HBAD.out, if_pos ⟨by omega, hmem⟩]
                    simp
                  have HMEM := Lib.hid hmem
                  clear hmem
                  go_wp2_with fail
                  refine (HIN.out _ (hr.below hblw)).mono ?_
                  rw [HMEM.out]
                  rintro y w4 ⟨rfl, hb4⟩
                  have hcz4 := ((bl_t hblw hb4).cell (p := ⟨b, off + e, none⟩) hblt).trans HCZ0.out
                  rw [← HX.out] at hcz4
                  have hrow4 := hR.row.below hb4
                  have hcw := hrow4.cell (j := x) (by omega)
                  have hfw := hrow4.frozen x
                  have hgl := hrow4.lt
                  have hb4l := bl_t hR.b1 hb4
                  have hbw4 : b < w4.heap.size := Nat.lt_of_lt_of_le hbw hb4.size
                  clear q0 q1 r0 r1 hgx hcz
                  go_wp2
                  go_roundw
                  case rel =>
                    exact ⟨e + 1, _, bs.set x true, by go_num, ⟨by omega, HQ.out, by simp [hlen], (fun j hj => by
                      rw [bd_set _ _ _ _ (by omega), hR.set j hj]
                      by_cases h : j = x
                      · subst h; simp
                      · simp [h]), hrow4.set (by omega) _, bl_s hb4l (Nat.le_refl _) _⟩⟩
                  case measure => simp [intOf]; omega
                | false =>
                  have HQ : Hid (mvspec sz ws n zs = mvgo n ws (e + 1) (zs.drop (e + 1)) f) := by
                    unfold Hid
                    rw [HST.out, if_neg HBAD.out, if_neg (by rw [hmem]; simp)]
                  have HMEM := Lib.hid hmem
                  clear hmem
                  go_wp2_with fail
                  refine (HIN.out _ (hr.below hblw)).mono ?_
                  rw [HMEM.out]
                  rintro y w4 ⟨rfl, hb4⟩
                  clear q0 q1 r0 r1 hgx hcz
                  go_wp2
                  go_roundw
                  case rel => exact ⟨e + 1, _, bs, by go_num, ⟨by omega, HQ.out, hlen, hR.set, hR.row.below hb4, bl_t hR.b1 hb4⟩⟩
                  case measure => simp [intOf]; omega
              · have hXm : X = -1 := by omega
                have HQ : Hid (mvspec sz ws n zs = mvgo n ws (e + 1) (zs.drop (e + 1)) f) := by
                  unfold Hid
                  rw [HST.out, if_neg hbad, if_neg (by omega)]
                have hX1 : ¬ X < -1 := by omega
                have hX2 : ¬ (n : Int) ≤ X := by omega
                clear hbad hXm
                go_wp2
                go_roundw
                case rel => exact ⟨e + 1, _, bs, by go_num, ⟨by omega, HQ.out, hR.len, hR.set, hR.row, hR.b1⟩⟩
                case measure => simp [intOf]; omega
          · have hend : zs.length ≤ e := by omega
            have HQ : Hid (mvspec sz ws n zs = .set n f) := by unfold Hid; rw [hR.an, mvgo_end hend]; simp
            have hlen := hR.len
            have hofr := of_any (some ⟨w1.heap.size, 0, none⟩) n bs wr hR.row.rd (by omega)
            rw [hlen] at hofr
            clear q0 q1 r0 r1 hgx
            go_wp2_with fail
            refine hofr.mono ?_
            rintro x w5 ⟨g, vs, rfl, hg, hwb, hws, hb5⟩
            have hby5 := (hb5.block _ (blk_lt hby)).trans hby
            obtain ⟨p0, p1, f0, f1, hg0⟩ := blk2 hby5
            have hgw : w.heap.size + 1 < wr.heap.size := blk_lt hby
            go_wp2
            refine bodyPost_ret (res_ct rfl _ _ (w.heap.size + 1) 24 #[.int .i64 n, .slice (some ⟨g, 0, none⟩) vs.length vs.length] (0, 0) _ rfl (hs_same (hs_same hby5 0 _) 1 _) Tryd.underlying24 rfl (by kernel_rfl)) rfl ?_
            rw [HQ.out]
            exact ⟨bl_s (bl_s (bl_t hblw hb5) (by simp) _) (by simp) _, g, vs, rfl, by omega, (hwb.other (by simp; omega) _).other (by simp; omega) _, hws.congr (fun e he => hR.set e he)⟩
      · have hlen' : ((zs.length : Int) != sz) = true := by rw [bne_iff_ne]; exact hlen
        have HP : Hid (mvspec sz ws n zs = .err 1) := by unfold Hid mvspec; rw [if_neg (by rw [HM.out]; simp), if_neg (by rw [hs]; simp), if_pos hlen]
        clear hlen
        go_enter Tryd.func18, Tryd.ntmps18
        go_wp2_with fail
        refine (HMAY.out _ (hr.below hbl0)).mono ?_
        rw [HM.out]
        rintro x w1 ⟨rfl, hb1⟩
        have hby1 := (hb1.block _ (blk_lt hby0)).trans hby0
        have hbx1 := (hb1.block _ (blk_lt hbx0)).trans hbx0
        obtain ⟨q0, q1, r0, r1, hg1⟩ := blk2 hbx1
        go_wp2_with (go_at_call 73; refine (rsized_any n _).mono ?_; rintro e' w' ⟨rfl, rfl⟩)
        refine (none_any _).mono ?_
        rintro x w5 ⟨rfl, hb5⟩
        have hby5 := (hb5.block _ (blk_lt hby1)).trans hby1
        obtain ⟨p0, p1, f0, f1, hg⟩ := blk2 hby5
        go_wp2
        refine bodyPost_ret (res_ct rfl _ _ (w.heap.size + 1) 24 #[.int .i64 0, .slice none 0 0] (0, 0) _ rfl (hs_same (hs_same hby5 0 _) 1 _) Tryd.underlying24 rfl (by kernel_rfl)) rfl ?_
        rw [HP.out]
        exact ⟨bl_s (bl_s (bl_t (bl_t hbl0 hb1) hb5) (by simp) _) (by simp) _, rfl⟩
end Go.Proofs.YtlmjfcieiengcaaDoor
