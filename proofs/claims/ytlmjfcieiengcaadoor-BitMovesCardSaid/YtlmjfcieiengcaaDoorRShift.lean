/- sloperef3.Shift answers shspec. The words are words; the length is one that a slice can have. -/
import Derived.Test.YtlmjfcieiengcaaDoorShift
namespace Go.Proofs.YtlmjfcieiengcaaDoor
open Go.RowKit
structure VRel (w1 wr : World) (s : Nat) (ws : List Nat) (n : Int) (g e : Nat) (bs : List Bool) : Prop where
  he : e ≤ s
  len : bs.length = s
  set : ∀ j, j < s → bd bs j = (decide (j < e) && shf s ws n j)
  row : BB wr g bs
  b1 : Below w1.heap.size w1 wr
theorem shf_no {s : Nat} {ws : List Nat} {n : Int} {j : Nat} (h : ¬ (0 ≤ (j : Int) - n ∧ (j : Int) - n < s)) : shf s ws n j = false := by
  unfold shf
  rw [decide_eq_false h]
  rfl
set_option maxHeartbeats 10000000 in
set_option maxRecDepth 100000 in
theorem rshift_any (sz n : Int) (A : Option Addr) (c : Nat) (ws : List Nat) (w : World) (hr : Rd w A ws) (hlt : ∀ j, wd ws j < 18446744073709551616) (hl : ws.length ≤ 9223372036854775807) :
    Calls Tryd.prog 16 #[.agg #[.int .i64 sz, .slice A ws.length c], .int .i64 n] w (SAPost (shspec sz ws n) w) := by
  have HMAY := Lib.hid (fun W hW => rmay_any sz A c ws W hW hlt hl)
  have hbl0 := bl_a (bl_a (Below.refl w.heap.size w) (.cells #[.int .i64 sz, .slice A ws.length c] 24)) (.cells #[.int .i64 0, .slice none 0 0] 24)
  have hbx0 : ((w.alloc (.cells #[.int .i64 sz, .slice A ws.length c] 24)).alloc (.cells #[.int .i64 0, .slice none 0 0] 24)).heap[w.heap.size]? = some (.cells #[.int .i64 sz, .slice A ws.length c] 24 (0, 0)) := (ha_old _ _ _ (by simp)).trans (ha_new _ _ _ rfl)
  have hby0 : ((w.alloc (.cells #[.int .i64 sz, .slice A ws.length c] 24)).alloc (.cells #[.int .i64 0, .slice none 0 0] 24)).heap[w.heap.size + 1]? = some (.cells #[.int .i64 0, .slice none 0 0] 24 (0, 0)) := ha_new _ _ _ (by simp)
  cases hm : mayB sz ws with
  | false =>
    have HP : Hid (shspec sz ws n = .err 61) := by unfold Hid shspec; rw [if_pos hm]
    have HM := Lib.hid hm
    clear hm
    go_enter Tryd.func16, Tryd.ntmps16
    go_wp2_with fail
    refine (HMAY.out _ (hr.below hbl0)).mono ?_
    rw [HM.out]
    rintro x w1 ⟨rfl, hb1⟩
    have hby1 := (hb1.block _ (blk_lt hby0)).trans hby0
    go_wp2_with fail
    refine (none_any _).mono ?_
    rintro x w5 ⟨rfl, hb5⟩
    have hby5 := (hb5.block _ (blk_lt hby1)).trans hby1
    obtain ⟨p0, p1, f0, f1, hg⟩ := blk2 hby5
    go_wp2
    refine bodyPost_ret (res_ct rfl _ _ (w.heap.size + 1) 24 #[.int .i64 0, .slice none 0 0] (0, 0) _ rfl (hs_same (hs_same hby5 0 _) 1 _) Tryd.underlying24 rfl (by kernel_rfl)) rfl ?_
    rw [HP.out]
    exact ⟨bl_s (bl_s (bl_t (bl_t hbl0 hb1) hb5) (by simp) _) (by simp) _, rfl⟩
  | true =>
    have hmp : MayP sz ws := by
      have := hm
      unfold mayB at this
      simpa using this
    obtain ⟨s, rfl⟩ : ∃ s : Nat, sz = s := ⟨sz.toNat, by have := hmp.1; omega⟩
    have hs4 : s ≤ 4096 := by have := hmp.2.1; omega
    have hwl : ws.length = nw s := by have := hmp.2.2.1; simpa using this
    have HWL := Lib.hid hwl
    have HP : Hid (shspec s ws n = .set s (shf s ws n)) := by unfold Hid shspec; rw [if_neg (by rw [hm]; simp)]; simp
    have HM := Lib.hid hm
    have hmk := mk_bools s (by omega)
    clear hm hmp hwl
    go_enter Tryd.func16, Tryd.ntmps16
    go_wp2_with fail
    refine (HMAY.out _ (hr.below hbl0)).mono ?_
    rw [HM.out]
    rintro x w1 ⟨rfl, hb1⟩
    have hbx1 := (hb1.block _ (blk_lt hbx0)).trans hbx0
    have hby1 := (hb1.block _ (blk_lt hby0)).trans hby0
    obtain ⟨q0, q1, r0, r1, hg1⟩ := blk2 hbx1
    go_wp2
    have HX1 := Lib.hid hbx1
    have HY1 := Lib.hid hby1
    have HMK := Lib.hid hmk
    clear q0 q1 r0 r1 hbx0 hby0 hbx1 hby1 hmk
    go_loopw [7] (fun i wr => ∃ (e : Nat) (bs : List Bool), i = .int .i64 e ∧ VRel w1 wr s ws n w1.heap.size e bs) (fun i _ => s - (intOf i).toNat)
    case atStart =>
      exact ⟨0, List.replicate s false, rfl, ⟨by omega, by simp, fun j _ => by rw [bd_replicate]; simp, BB.made _ _, bl_a (Below.refl _ _) _⟩⟩
    case round =>
      obtain ⟨e, bs, rfl, hR⟩ := hrel
      have he := hR.he
      have hlen := hR.len
      have hbx := (hR.b1.block _ (blk_lt HX1.out)).trans HX1.out
      have hby := (hR.b1.block _ (blk_lt HY1.out)).trans HY1.out
      obtain ⟨q0, q1, r0, r1, hgx⟩ := blk2 hbx
      have hblw : Below w.heap.size w wr := bl_t (bl_t hbl0 hb1) hR.b1
      by_cases hlt2 : e < s
      · have hno : shf s ws n e = false → VRel w1 wr s ws n w1.heap.size (e + 1) bs := fun h => ⟨by omega, hlen, fun j hj => by
          rw [hR.set j hj]
          by_cases h1 : j < e
          · have : j < e + 1 := by omega
            simp [h1, this]
          · by_cases h2 : j = e
            · subst h2; simp [h]
            · have : ¬ j < e + 1 := by omega
              simp [h1, this], hR.row, hR.b1⟩
        by_cases hc : 0 ≤ (e : Int) - n ∧ (e : Int) - n < s
        · obtain ⟨d, hd⟩ : ∃ d : Nat, (e : Int) - n = d := ⟨((e : Int) - n).toNat, by omega⟩
          have hds : d < s := by omega
          have hn1 : -4096 < n := by omega
          have hn2 : n < 4096 := by omega
          have hsh : Hid (shf s ws n e = mem ws d) := by
            unfold Hid shf
            rw [decide_eq_true hc, hd]
            simp
          have HIN := Lib.hid (rin_any s A c d ws wr (hr.below hblw) hlt (by rw [HWL.out, nw_eq]; omega) (by rw [HWL.out, nw_eq]; omega))
          have HNO := Lib.hid hno
          clear hc hno
          go_wp2_with fail
          refine HIN.out.mono ?_
          rintro y w4 ⟨rfl, hb4⟩
          have hrow4 := hR.row.below hb4
          have hcw := hrow4.cell (j := e) (by omega)
          have hfw := hrow4.frozen e
          have hgl := hrow4.lt
          have hb4l := bl_t hR.b1 hb4
          clear q0 q1 r0 r1 hgx
          go_wp2
          go_roundw
          case rel =>
            exact ⟨e + 1, bs.set e (mem ws d), by go_num, ⟨by omega, by simp [hlen], (fun j hj => by
              rw [bd_set _ _ _ _ (by omega), hR.set j hj, ← hsh.out]
              by_cases h : j = e
              · subst h; simp
              · rw [if_neg h]
                by_cases h1 : j < e
                · have : j < e + 1 := by omega
                  simp [h1, this]
                · have : ¬ j < e + 1 := by omega
                  simp [h1, this]), hrow4.set (by omega) _, bl_s hb4l (Nat.le_refl _) _⟩⟩
          case measure => simp [intOf]; omega
        · have hV := hno (shf_no hc)
          have HC := Lib.hid hc
          clear hno hc
          by_cases hn1 : -4096 < n
          · by_cases hn2 : n < 4096
            · by_cases hn3 : 0 ≤ (e : Int) - n
              · have hn4 : ¬ (e : Int) - n < s := fun h => HC.out ⟨hn3, h⟩
                go_wp2
                go_roundw
                case rel => exact ⟨e + 1, bs, by go_num, hV⟩
                case measure => simp [intOf]; omega
              · go_wp2
                go_roundw
                case rel => exact ⟨e + 1, bs, by go_num, hV⟩
                case measure => simp [intOf]; omega
            · go_wp2
              go_roundw
              case rel => exact ⟨e + 1, bs, by go_num, hV⟩
              case measure => simp [intOf]; omega
          · go_wp2
            go_roundw
            case rel => exact ⟨e + 1, bs, by go_num, hV⟩
            case measure => simp [intOf]; omega
      · have hofr := of_any (some ⟨w1.heap.size, 0, none⟩) s bs wr hR.row.rd (by omega)
        rw [hlen] at hofr
        go_wp2_with fail
        refine hofr.mono ?_
        rintro x w5 ⟨g, vs, rfl, hg, hwb, hws, hb5⟩
        have hby5 := (hb5.block _ (blk_lt hby)).trans hby
        obtain ⟨p0, p1, f0, f1, hg0⟩ := blk2 hby5
        have hgw : w.heap.size + 1 < wr.heap.size := blk_lt hby
        clear q0 q1 r0 r1 hgx
        go_wp2
        refine bodyPost_ret (res_ct rfl _ _ (w.heap.size + 1) 24 #[.int .i64 s, .slice (some ⟨g, 0, none⟩) vs.length vs.length] (0, 0) _ rfl (hs_same (hs_same hby5 0 _) 1 _) Tryd.underlying24 rfl (by kernel_rfl)) rfl ?_
        rw [HP.out]
        exact ⟨bl_s (bl_s (bl_t hblw hb5) (by simp) _) (by simp) _, g, vs, rfl, by omega, (hwb.other (by simp; omega) _).other (by simp; omega) _, hws.congr (fun j hj => by
          rw [hR.set j hj]
          have : j < e := by omega
          simp [this])⟩
end Go.Proofs.YtlmjfcieiengcaaDoor
