/- bitset.Move and sloperef3.Move answer the same. The words are words; the lengths are ones that slices can have. -/
import Derived.Test.YtlmjfcieiengcaaDoorInts
namespace Go.Proofs.YtlmjfcieiengcaaDoor
open Go.RowKit
/-- an answer: an error, or a set -/
inductive SA where
  | err (e : Nat)
  | set (n : Nat) (f : Nat → Bool)
def SAPost (an : SA) (w : World) (x : Ending) (w' : World) : Prop :=
  Below w.heap.size w w' ∧ match an with
  | .err e => x = .returned (.tuple #[.agg #[.int .i64 0, .slice none 0 0], .int .i64 e])
  | .set n f => ∃ g ws, x = .returned (.tuple #[.agg #[.int .i64 n, .slice (some ⟨g, 0, none⟩) ws.length ws.length], .int .i64 0]) ∧ w.heap.size ≤ g ∧ WB w' g ws ∧ Ws ws n f
def mvgo (size : Int) (ws : List Nat) : Nat → List Int → (Nat → Bool) → SA
  | _, [], f => .set size.toNat f
  | e, x :: l, f => if x < -1 ∨ size ≤ x then .err 62 else mvgo size ws (e + 1) l (if 0 ≤ x ∧ mem ws e = true then fun y => f y || decide (y = x.toNat) else f)
noncomputable def mvspec (sz : Int) (ws : List Nat) (size : Int) (zs : List Int) : SA :=
  if mayB sz ws = false then .err 61 else if szB size = false then .err 60 else if (zs.length : Int) ≠ sz then .err 1 else mvgo size ws 0 zs fun _ => false
theorem mvgo_step {size : Int} {ws : List Nat} {zs : List Int} {e : Nat} {f : Nat → Bool} (he : e < zs.length) :
    mvgo size ws e (zs.drop e) f = if zd zs e < -1 ∨ size ≤ zd zs e then .err 62 else mvgo size ws (e + 1) (zs.drop (e + 1)) (if 0 ≤ zd zs e ∧ mem ws e = true then fun y => f y || decide (y = (zd zs e).toNat) else f) := by
  rw [List.drop_eq_getElem_cons he, zd_lt he]
  rfl
theorem mvgo_end {size : Int} {ws : List Nat} {zs : List Int} {e : Nat} {f : Nat → Bool} (he : zs.length ≤ e) : mvgo size ws e (zs.drop e) f = .set size.toNat f := by
  rw [List.drop_eq_nil_of_le he]
  rfl
structure MRel (w1 wr : World) (an : SA) (size : Nat) (ws : List Nat) (zs : List Int) (g gs e : Nat) (f : Nat → Bool) (vs : List Nat) : Prop where
  he : e ≤ zs.length
  an : an = mvgo size ws e (zs.drop e) f
  set : Ws vs size f
  row : WB wr g vs
  bs : wr.heap[gs]? = some (.cells #[.int .i64 size, .slice (some ⟨g, 0, none⟩) (nw size) (nw size)] 24 (0, 0))
  hgs : w1.heap.size ≤ gs
  hg : w1.heap.size ≤ g
  ne : gs ≠ g
  b1 : Below w1.heap.size w1 wr
theorem MRel.below {w1 wr w3 : World} {an : SA} {size : Nat} {ws : List Nat} {zs : List Int} {g gs e : Nat} {f : Nat → Bool} {vs : List Nat} (h : MRel w1 wr an size ws zs g gs e f vs) (hb : Below wr.heap.size wr w3) : MRel w1 w3 an size ws zs g gs e f vs :=
  ⟨h.he, h.an, h.set, h.row.below hb, (hb.block _ (blk_lt h.bs)).trans h.bs, h.hgs, h.hg, h.ne, bl_t h.b1 hb⟩
set_option maxHeartbeats 10000000 in
set_option maxRecDepth 100000 in
theorem move_any (sz size : Int) (A B : Option Addr) (c d : Nat) (ws : List Nat) (zs : List Int) (w : World) (hr : Rd w A ws) (hlt : ∀ j, wd ws j < 18446744073709551616) (hl : ws.length ≤ 9223372036854775807) (hz : RdI w B zs) (hlz : zs.length ≤ 9223372036854775807) :
    Calls Tryd.prog 17 #[.agg #[.int .i64 sz, .slice A ws.length c], .int .i64 size, .slice B zs.length d] w (SAPost (mvspec sz ws size zs) w) := by
  have HMAY := Lib.hid (fun W hW => may_any sz A c ws W hW hlt hl)
  have hbl0 := bl_a (bl_a (Below.refl w.heap.size w) (.cells #[.int .i64 sz, .slice A ws.length c] 24)) (.cells #[.int .i64 0, .slice none 0 0] 24)
  have hbx0 : ((w.alloc (.cells #[.int .i64 sz, .slice A ws.length c] 24)).alloc (.cells #[.int .i64 0, .slice none 0 0] 24)).heap[w.heap.size]? = some (.cells #[.int .i64 sz, .slice A ws.length c] 24 (0, 0)) := (ha_old _ _ _ (by simp)).trans (ha_new _ _ _ rfl)
  have hby0 : ((w.alloc (.cells #[.int .i64 sz, .slice A ws.length c] 24)).alloc (.cells #[.int .i64 0, .slice none 0 0] 24)).heap[w.heap.size + 1]? = some (.cells #[.int .i64 0, .slice none 0 0] 24 (0, 0)) := ha_new _ _ _ (by simp)
  cases hm : mayB sz ws with
  | false =>
    have HP : Hid (mvspec sz ws size zs = .err 61) := by unfold Hid mvspec; rw [if_pos hm]
    have HM := Lib.hid hm
    clear hm
    go_enter Tryd.func17, Tryd.ntmps17
    go_wp2_with fail
    refine (HMAY.out _ (hr.below hbl0)).mono ?_
    rw [HM.out]
    rintro x w1 ⟨rfl, hb1⟩
    have hby1 := (hb1.block _ (blk_lt hby0)).trans hby0
    obtain ⟨p0, p1, f0, f1, hg⟩ := blk2 hby1
    go_wp2
    refine bodyPost_ret (res_ct rfl _ _ (w.heap.size + 1) 24 #[.int .i64 0, .slice none 0 0] (0, 0) _ rfl (hs_same (hs_same hby1 0 _) 1 _) Tryd.underlying24 rfl (by kernel_rfl)) rfl ?_
    rw [HP.out]
    exact ⟨bl_s (bl_s (bl_t hbl0 hb1) (by simp) _) (by simp) _, rfl⟩
  | true =>
    have HM := Lib.hid hm
    clear hm
    cases hs : szB size with
    | false =>
      have HP : Hid (mvspec sz ws size zs = .err 60) := by unfold Hid mvspec; rw [if_neg (by rw [HM.out]; simp), if_pos hs]
      go_enter Tryd.func17, Tryd.ntmps17
      go_wp2_with fail
      refine (HMAY.out _ (hr.below hbl0)).mono ?_
      rw [HM.out]
      rintro x w1 ⟨rfl, hb1⟩
      have hby1 := (hb1.block _ (blk_lt hby0)).trans hby0
      obtain ⟨p0, p1, f0, f1, hg⟩ := blk2 hby1
      go_wp2_with (go_at_call 71; refine (sized_any size _).mono ?_; rintro e' w' ⟨rfl, rfl⟩)
      refine bodyPost_ret (res_ct rfl _ _ (w.heap.size + 1) 24 #[.int .i64 0, .slice none 0 0] (0, 0) _ rfl (hs_same (hs_same hby1 0 _) 1 _) Tryd.underlying24 rfl (by kernel_rfl)) rfl ?_
      rw [HP.out]
      exact ⟨bl_s (bl_s (bl_t hbl0 hb1) (by simp) _) (by simp) _, rfl⟩
    | true =>
      obtain ⟨n, rfl⟩ : ∃ n : Nat, size = n := ⟨size.toNat, by unfold szB at hs; simp at hs; omega⟩
      have hn : n ≤ 4096 := by unfold szB at hs; simp at hs; omega
      by_cases hlen : (zs.length : Int) = sz
      · have hlen' : ((zs.length : Int) != sz) = false := by rw [bne_eq_false_iff_eq]; exact hlen
        have HP : Hid (mvspec sz ws n zs = mvgo n ws 0 zs fun _ => false) := by unfold Hid mvspec; rw [if_neg (by rw [HM.out]; simp), if_neg (by rw [hs]; simp), if_neg (by simpa using hlen)]
        have hmp : MayP sz ws := by
          have := HM.out
          unfold mayB at this
          simpa using this
        have hwl : ws.length = nw zs.length := by have := hmp.2.2.1; rw [this]; congr 1; omega
        have HWL := Lib.hid hwl
        have hzl : zs.length ≤ 4096 := by have := hmp.2.1; omega
        have HLEN := Lib.hid hlen
        clear hmp hlen hwl
        go_enter Tryd.func17, Tryd.ntmps17
        go_wp2_with fail
        refine (HMAY.out _ (hr.below hbl0)).mono ?_
        rw [HM.out]
        rintro x w1 ⟨rfl, hb1⟩
        have hbx1 := (hb1.block _ (blk_lt hbx0)).trans hbx0
        have hby1 := (hb1.block _ (blk_lt hby0)).trans hby0
        obtain ⟨q0, q1, r0, r1, hg1⟩ := blk2 hbx1
        go_wp2_with (first | (go_at_call 71; refine (sized_any n _).mono ?_; rintro e' w' ⟨rfl, rfl⟩) | (go_at_call 65; refine (blank_any n (by omega) _).mono ?_; rintro e' w2 ⟨g, rfl, hg1, hwb, hb2⟩))
        have HX1 := Lib.hid hbx1
        have HY1 := Lib.hid hby1
        clear q0 q1 r0 r1 hbx0 hby0 hbx1 hby1
        go_loopw [29] (fun i wr => ∃ (e : Nat) (f : Nat → Bool) (vs : List Nat), i = .int .i64 e ∧ MRel w1 wr (mvspec sz ws n zs) n ws zs g w2.heap.size e f vs) (fun i _ => zs.length - (intOf i).toNat)
        case atStart =>
          refine ⟨0, fun _ => false, List.replicate (nw n) 0, rfl, ⟨by omega, by rw [HP.out, List.drop_zero], Ws.empty n, hwb.alloc _, ha_new _ _ _ rfl, hb2.size, by omega, by have := hwb.lt; omega, bl_a hb2 _⟩⟩
        case round =>
          obtain ⟨e, f, vs, rfl, hR⟩ := hrel
          clear hwb
          have he := hR.he
          obtain ⟨s0, s1, t0, t1, hgs⟩ := blk2 hR.bs
          have hbx := (hR.b1.block _ (blk_lt HX1.out)).trans HX1.out
          have hby := (hR.b1.block _ (blk_lt HY1.out)).trans HY1.out
          obtain ⟨q0, q1, r0, r1, hgx⟩ := blk2 hbx
          obtain ⟨p0, p1, f0, f1, hgy⟩ := blk2 hby
          have hblw : Below w.heap.size w wr := bl_t (bl_t hbl0 hb1) hR.b1
          have hn1 : w.heap.size + 1 ≠ w2.heap.size := by have := hR.hgs; have := blk_lt HY1.out; omega
          have hn2 : w.heap.size + 1 ≠ g := by have := hR.hg; have := blk_lt HY1.out; omega
          by_cases hlt2 : e < zs.length
          · obtain ⟨b, off, rfl, hblt, hcell⟩ := hz e hlt2
            have hcz := (hblw.cell (p := ⟨b, off + e, none⟩) hblt).trans hcell
            have hbw : b < wr.heap.size := Nat.lt_of_lt_of_le hblt hblw.size
            have hst := mvgo_step (size := n) (ws := ws) (f := f) hlt2
            rw [← hR.an] at hst
            obtain ⟨X, hX⟩ : ∃ X, X = zd zs e := ⟨_, rfl⟩
            rw [← hX] at hcz hst
            have HST := Lib.hid hst
            have HX := Lib.hid hX
            clear hst hX hcell
            have HHAS := Lib.hid (fun W hW => has_any sz A c e ws W hW hlt (by rw [HWL.out, nw_eq]; omega) (by rw [HWL.out, nw_eq]; omega))
            by_cases hbad : X < -1 ∨ (n : Int) ≤ X
            · have hx1 : (X != -1) = true := by rw [bne_iff_ne]; omega
              have hin : inB X n = false := by unfold inB; simp; omega
              have HQ : Hid (mvspec sz ws n zs = .err 62) := by unfold Hid; rw [HST.out, if_pos hbad]
              clear hbad
              go_wp2_with (go_at_call 66; refine (within_any n X _ _).mono ?_; rintro x w3 ⟨rfl, hb3⟩; have hby3 := (hb3.block _ hgy).trans hby; obtain ⟨p0', p1', f0', f1', hgy'⟩ := blk2 hby3)
              refine bodyPost_ret (res_ct rfl _ _ (w.heap.size + 1) 24 #[.int .i64 0, .slice none 0 0] (0, 0) _ rfl (hs_same (hs_same hby3 0 _) 1 _) Tryd.underlying24 rfl (by kernel_rfl)) rfl ?_
              rw [HQ.out]
              exact ⟨bl_s (bl_s (bl_t hblw hb3) (by simp) _) (by simp) _, rfl⟩
            · by_cases hx0 : 0 ≤ X
              · obtain ⟨x, rfl⟩ : ∃ x : Nat, X = x := ⟨X.toNat, by omega⟩
                have hxn : x < n := by omega
                have hx1 : ((x : Int) != -1) = true := by rw [bne_iff_ne]; omega
                have hin : inB x n = true := by unfold inB; simp; omega
                have HBAD := Lib.hid hbad
                clear hbad hx0
                go_wp2_with fail
                refine (within_any n x _ _).mono ?_
                rintro y w3 ⟨rfl, hb3⟩
                have hR3 := hR.below hb3
                have hblw3 := bl_t hblw hb3
                have hbx3 := (hb3.block _ hgx).trans hbx
                clear s0 s1 t0 t1 hgs q0 q1 r0 r1 hgx p0 p1 f0 f1 hgy
                obtain ⟨s0, s1, t0, t1, hgs⟩ := blk2 hR3.bs
                obtain ⟨q0, q1, r0, r1, hgx⟩ := blk2 hbx3
                cases hmem : mem ws e with
                | true =>
                  have HQ : Hid (mvspec sz ws n zs = mvgo n ws (e + 1) (zs.drop (e + 1)) (fun y => f y || decide (y = x))) := by
                    unfold Hid
                    rw [HST.out, if_neg HBAD.out, if_pos ⟨by omega, hmem⟩]
                    simp
                  have HMEM := Lib.hid hmem
                  clear hmem
                  go_wp2_with fail
                  refine (HHAS.out _ (hr.below hblw3)).mono ?_
                  rw [HMEM.out]
                  rintro y w4 ⟨rfl, hb4⟩
                  have hR4 := hR3.below hb4
                  clear s0 s1 t0 t1 hgs q0 q1 r0 r1 hgx
                  obtain ⟨s0, s1, t0, t1, hgs⟩ := blk2 hR4.bs
                  have hput := put_any n g (nw n) x vs w4 hR4.row (by rw [hR4.set.len, nw_eq]; omega) (by rw [hR4.set.len, nw_eq]; omega) hR4.set.lt
                  rw [hR4.set.len] at hput
                  go_wp2_with fail
                  refine hput.mono ?_
                  rintro y w5 ⟨rfl, hw5, hg5⟩
                  clear s0 s1 t0 t1 hgs hput
                  go_wp2
                  go_roundw
                  case rel =>
                    exact ⟨e + 1, _, setb vs x, by go_num, ⟨by omega, HQ.out, hR4.set.put hxn, hw5, blk_grown hR4.bs hg5 (by intro h; injection h with h; exact hR.ne h), hR4.hgs, hR4.hg, hR4.ne, bl_g hR4.b1 hg5 hR.hg⟩⟩
                  case measure => simp [intOf]; omega
                | false =>
                  have HQ : Hid (mvspec sz ws n zs = mvgo n ws (e + 1) (zs.drop (e + 1)) f) := by
                    unfold Hid
                    rw [HST.out, if_neg HBAD.out, if_neg (by rw [hmem]; simp)]
                  have HMEM := Lib.hid hmem
                  clear hmem
                  go_wp2_with fail
                  refine (HHAS.out _ (hr.below hblw3)).mono ?_
                  rw [HMEM.out]
                  rintro y w4 ⟨rfl, hb4⟩
                  have hR4 := hR3.below hb4
                  clear s0 s1 t0 t1 hgs q0 q1 r0 r1 hgx
                  go_wp2
                  go_roundw
                  case rel => exact ⟨e + 1, _, vs, by go_num, ⟨by omega, HQ.out, hR4.set, hR4.row, hR4.bs, hR4.hgs, hR4.hg, hR4.ne, hR4.b1⟩⟩
                  case measure => simp [intOf]; omega
              · have hXm : X = -1 := by omega
                have hx1 : (X != -1) = false := by rw [bne_eq_false_iff_eq]; exact hXm
                have HQ : Hid (mvspec sz ws n zs = mvgo n ws (e + 1) (zs.drop (e + 1)) f) := by
                  unfold Hid
                  rw [HST.out, if_neg hbad, if_neg (by omega)]
                clear hbad hXm
                go_wp2
                go_roundw
                case rel => exact ⟨e + 1, _, vs, by go_num, ⟨by omega, HQ.out, hR.set, hR.row, hR.bs, hR.hgs, hR.hg, hR.ne, hR.b1⟩⟩
                case measure => simp [intOf]; omega
          · have hend : zs.length ≤ e := by omega
            have HQ : Hid (mvspec sz ws n zs = .set n f) := by unfold Hid; rw [hR.an, mvgo_end hend]; simp
            have hrow := hR.row
            have hset := hR.set
            have hvl := hset.len
            clear q0 q1 r0 r1
            go_wp2
            refine bodyPost_ret (res_ct rfl _ _ (w.heap.size + 1) 24 #[.int .i64 n, .slice (some ⟨g, 0, none⟩) (nw n) (nw n)] (0, 0) _ rfl (hs_same (hs_same hby 0 _) 1 _) Tryd.underlying24 rfl (by kernel_rfl)) rfl ?_
            rw [HQ.out]
            refine ⟨bl_s (bl_s hblw (by simp) _) (by simp) _, g, vs, by rw [hvl]; rfl, by have := hR.hg; have := blk_lt HY1.out; omega, ?_, hset⟩
            exact (hrow.other (by simp; omega) _).other (by simp; omega) _
      · have hlen' : ((zs.length : Int) != sz) = true := by rw [bne_iff_ne]; exact hlen
        have HP : Hid (mvspec sz ws n zs = .err 1) := by unfold Hid mvspec; rw [if_neg (by rw [HM.out]; simp), if_neg (by rw [hs]; simp), if_pos hlen]
        clear hlen
        go_enter Tryd.func17, Tryd.ntmps17
        go_wp2_with fail
        refine (HMAY.out _ (hr.below hbl0)).mono ?_
        rw [HM.out]
        rintro x w1 ⟨rfl, hb1⟩
        have hby1 := (hb1.block _ (blk_lt hby0)).trans hby0
        have hbx1 := (hb1.block _ (blk_lt hbx0)).trans hbx0
        obtain ⟨p0, p1, f0, f1, hg⟩ := blk2 hby1
        obtain ⟨q0, q1, r0, r1, hg1⟩ := blk2 hbx1
        go_wp2_with (go_at_call 71; refine (sized_any n _).mono ?_; rintro e' w' ⟨rfl, rfl⟩)
        refine bodyPost_ret (res_ct rfl _ _ (w.heap.size + 1) 24 #[.int .i64 0, .slice none 0 0] (0, 0) _ rfl (hs_same (hs_same hby1 0 _) 1 _) Tryd.underlying24 rfl (by kernel_rfl)) rfl ?_
        rw [HP.out]
        exact ⟨bl_s (bl_s (bl_t hbl0 hb1) (by simp) _) (by simp) _, rfl⟩
end Go.Proofs.YtlmjfcieiengcaaDoor
