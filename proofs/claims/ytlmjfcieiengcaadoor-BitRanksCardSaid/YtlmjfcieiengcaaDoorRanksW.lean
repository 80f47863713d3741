/- slopelaw3.BitRanks returns true, the table lying in its variable. The length is one that a slice can have. -/
import Derived.Test.YtlmjfcieiengcaaDoorRanks
namespace Go.Proofs.YtlmjfcieiengcaaDoor
open Go.RowKit
set_option maxRecDepth 100000 in
set_option maxHeartbeats 20000000 in
theorem ranks_walk (size : Int) (B : Option Addr) (d : Nat) (zs : List Int) (w : World) (hz : RdI w B zs) (hlz : zs.length ≤ 17592186044415) (hT : TabOk w) :
    Calls Tryd.prog 5 #[.int .i64 size, .slice B zs.length d] w fun x w' => x = .returned (.bool true) ∧ Below w.heap.size w w' := by
  have hz63 : zs.length ≤ 9223372036854775807 := by omega
  have HMK := Lib.hid (fun W hW => make_any size B d zs W hW hz63)
  cases hk : mkspec size zs with
  | err k =>
    rw [hk] at HMK
    have hk0 : ((k : Int) != 0) = true := by
      rw [bne_iff_ne]
      have : ∀ (l : List Int) (f : Nat → Bool), mkgo size.toNat l f = .err k → k = 62 := by
        intro l
        induction l with
        | nil => intro f h; cases h
        | cons x l ih =>
          intro f h
          rw [mkgo] at h
          split at h
          · injection h with h; exact h.symm
          · exact ih _ h
      unfold mkspec at hk
      split at hk
      · injection hk with hk; omega
      · have := this _ _ hk; omega
    clear hk
    go_enter Tryd.func5, Tryd.ntmps5
    go_wp2_with fail
    refine (alive_any _).mono ?_
    rintro x w1 ⟨rfl, hb1⟩
    go_wp2_with fail
    refine (HMK.out _ (hz.below hb1)).mono ?_
    rintro x w2 ⟨hb2, rfl⟩
    go_wp2_with (go_at_call 20; refine (num_any _ _).mono ?_; rintro e' w' ⟨rfl, rfl⟩)
    go_ret
    exact ⟨rfl, bl_a (bl_t hb1 hb2) _⟩
  | set m f =>
    have hsz : szB size = true := by
      unfold mkspec at hk
      split at hk
      · cases hk
      · rename_i h; simpa using h
    obtain ⟨n, rfl⟩ : ∃ n : Nat, size = n := ⟨size.toNat, by unfold szB at hsz; simp at hsz; omega⟩
    have hgo : mkgo n zs (fun _ => false) = .set m f := by
      unfold mkspec at hk
      rw [if_neg (by rw [hsz]; simp)] at hk
      exact hk
    rw [hk] at HMK
    have HGO := Lib.hid (And.intro hsz hgo)
    clear hk hgo hsz
    go_enter Tryd.func5, Tryd.ntmps5
    go_wp2_with fail
    refine (alive_any _).mono ?_
    rintro x w1 ⟨rfl, hb1⟩
    go_wp2_with fail
    refine (HMK.out _ (hz.below hb1)).mono ?_
    rintro x w2 ⟨hb2, g, ws, rfl, hg0, hwb, hws⟩
    obtain ⟨rfl, hM⟩ := made_of HGO.out.1 HGO.out.2 hws
    have hbl2 := bl_t hb1 hb2
    have hS : BoxS w (w2.alloc (.cells #[.int .i64 m, .slice (some ⟨g, 0, none⟩) ws.length ws.length] 24)) w2.heap.size g m ws.length ws := ⟨ha_new _ _ _ rfl, hwb.alloc _, bl_a hbl2 _⟩
    have hl64 : ws.length ≤ 64 := by have h1 := hM.len; have h2 := hM.hn; rw [nw_eq] at h1; omega
    have hl63 : ws.length ≤ 9223372036854775807 := by omega
    obtain ⟨N, hN⟩ : ∃ N, N = cnt ws m := ⟨_, rfl⟩
    have hNz : N ≤ zs.length := by rw [hN]; exact hM.le
    have hN4 : N ≤ 4096 := by have h1 := cnt_le ws m; have h2 := hM.hn; omega
    have hNd : decide (zs.length < N) = false := by simp; omega
    have HN := Lib.hid hN
    have HHM := Lib.hid hM
    have HLT := Lib.hid hM.lt
    have hm4 : m ≤ 4096 := hM.hn
    have HCN := Lib.hid (fun W (hW : BoxS w W w2.heap.size g m ws.length ws) => count_any m (some ⟨g, 0, none⟩) ws.length ws W hW.wb.rd hM.lt hl63)
    have HRK := Lib.hid (fun e W (hW : BoxS w W w2.heap.size g m ws.length ws) => rank_any m e (some ⟨g, 0, none⟩) ws.length ws W hW.wb.rd hM.lt hl63 (Nat.le_refl _))
    have HSE := Lib.hid (fun k W (hW : BoxS w W w2.heap.size g m ws.length ws) (hk : k ≤ 9223372036854775807) => select_any m k (some ⟨g, 0, none⟩) ws.length ws W hW.wb.rd hM.lt hl63 (hT.below hW.bl) hk)
    have HNX := Lib.hid (fun e W (hW : BoxS w W w2.heap.size g m ws.length ws) => next_any m e (some ⟨g, 0, none⟩) ws.length ws W hW.wb.rd hM.lt hl63 (Nat.le_refl _) (hT.below hW.bl))
    have HLA := Lib.hid (fun e W (hW : BoxS w W w2.heap.size g m ws.length ws) => last_any m e (some ⟨g, 0, none⟩) ws.length ws W hW.wb.rd hM.lt hl63 (Nat.le_refl _) (hT.below hW.bl))
    have HHA := Lib.hid (fun e W (hW : BoxS w W w2.heap.size g m ws.length ws) => hass_any m e (some ⟨g, 0, none⟩) ws.length ws W hW.wb.rd hM.lt hl63)
    have e1 := hM.cn
    rw [← hN] at e1
    rw [e1] at HCN
    have e2 := hM.sel_end
    rw [← hN] at e2
    have e3 := hM.rk m (Nat.le_refl _)
    rw [← hN] at e3
    have E2 := Lib.hid e2
    have E3 := Lib.hid e3
    clear e1 e2 e3 hN hM hwb hws hg0
    go_wp2_with (go_at_call 20; refine (num_any _ _).mono ?_; rintro e' w' ⟨rfl, rfl⟩)
    refine (HCN.out _ hS).mono ?_
    rintro x w3 ⟨rfl, hb3⟩
    have hS3 := hS.step hb3
    obtain ⟨p0, p1, f0, f1, hg3⟩ := blk2 hS3.bx
    go_wp2_with fail
    refine (HRK.out m _ hS3).mono ?_
    rw [E3.out]
    rintro x w4 ⟨rfl, hb4⟩
    have hS4 := hS3.step hb4
    clear p0 p1 f0 f1 hg3
    obtain ⟨p0, p1, f0, f1, hg3⟩ := blk2 hS4.bx
    go_wp2_with fail
    refine (HSE.out N _ hS4 (by omega)).mono ?_
    rw [E2.out]
    rintro x w5 ⟨rfl, hb5⟩
    have hS5 := hS4.step hb5
    clear p0 p1 f0 f1 hg3
    obtain ⟨p0, p1, f0, f1, hg3⟩ := blk2 hS5.bx
    go_wp2_with fail
    refine (HSE.out (-1) _ hS5 (by omega)).mono ?_
    rw [sel_neg]
    rintro x w6 ⟨rfl, hb6⟩
    have hS6 := hS5.step hb6
    clear p0 p1 f0 f1 hg3
    have HS6 := Lib.hid hS6
    clear hS6 hS hS3 hS4 hS5
    go_wp2
    go_loopw [8, 9, 10, 11, 12] (fun a k _ _ _ wr => ∃ (j at1 : Nat), k = .int .i64 j ∧ a = .int .i64 ((at1 : Int) - 1) ∧ j ≤ N ∧ at1 ≤ m ∧ cnt ws at1 = j ∧ BoxS w wr w2.heap.size g m ws.length ws) (fun _ k _ _ _ _ => N - (intOf k).toNat)
    case atStart => exact ⟨0, 0, rfl, rfl, Nat.zero_le _, Nat.zero_le _, rfl, HS6.out⟩
    case round =>
      obtain ⟨j, at1, rfl, rfl, hjN, hat, hcj, hR⟩ := hrel
      obtain ⟨p0, p1, f0, f1, hgr⟩ := blk2 hR.bx
      by_cases hlt2 : j < N
      · obtain ⟨e, hmem, hce, hae, hem⟩ := HHM.out.kth (by rw [← HN.out]; exact hlt2) hcj
        have hsel := HHM.out.sel_at hmem
        rw [hce] at hsel
        have hrk1 := HHM.out.rk at1 hat
        rw [hcj] at hrk1
        have hlas := HHM.out.las_at hmem
        have hhas := HHM.out.has_at hmem
        have hrke := HHM.out.rk e (by omega)
        rw [hce] at hrke
        have hrke1 := HHM.out.rk (e + 1) (by omega)
        rw [cnt_mem hmem, hce] at hrke1
        have HH := Lib.hid (And.intro hsel (And.intro hrk1 (And.intro hlas (And.intro hhas (And.intro hrke hrke1)))))
        have HCE := Lib.hid (And.intro (cnt_mem hmem) hce)
        have HR := Lib.hid hR
        have hci : ((at1 : Int) - 1) < (e : Int) := by omega
        clear hsel hrk1 hlas hhas hrke hrke1 hmem hce hcj hR
        go_wp2_with fail
        refine (HSE.out j _ HR.out (by omega)).mono ?_
        rw [HH.out.1]
        rintro x w7 ⟨rfl, hb7⟩
        have HR7 := Lib.hid (HR.out.step hb7)
        clear p0 p1 f0 f1 hgr
        obtain ⟨p0, p1, f0, f1, hgr⟩ := blk2 HR7.out.bx
        go_wp2_with fail
        refine (HNX.out at1 _ HR7.out).mono ?_
        rw [HH.out.2.1, HH.out.1]
        rintro x w8 ⟨rfl, hb8⟩
        have HR8 := Lib.hid (HR7.out.step hb8)
        clear p0 p1 f0 f1 hgr
        obtain ⟨p0, p1, f0, f1, hgr⟩ := blk2 HR8.out.bx
        go_wp2_with fail
        refine (HLA.out e _ HR8.out).mono ?_
        rw [HH.out.2.2.1]
        rintro x w9 ⟨rfl, hb9⟩
        have HR9 := Lib.hid (HR8.out.step hb9)
        clear p0 p1 f0 f1 hgr
        obtain ⟨p0, p1, f0, f1, hgr⟩ := blk2 HR9.out.bx
        go_wp2_with fail
        refine (HHA.out e _ HR9.out).mono ?_
        rw [HH.out.2.2.2.1]
        rintro x w10 ⟨rfl, hb10⟩
        have HR10 := Lib.hid (HR9.out.step hb10)
        clear p0 p1 f0 f1 hgr
        obtain ⟨p0, p1, f0, f1, hgr⟩ := blk2 HR10.out.bx
        go_wp2_with fail
        refine (HRK.out e _ HR10.out).mono ?_
        rw [HH.out.2.2.2.2.1]
        rintro x w11 ⟨rfl, hb11⟩
        have HR11 := Lib.hid (HR10.out.step hb11)
        clear p0 p1 f0 f1 hgr
        obtain ⟨p0, p1, f0, f1, hgr⟩ := blk2 HR11.out.bx
        go_wp2_with fail
        refine (HRK.out (e + 1 : Nat) _ HR11.out).mono ?_
        rw [HH.out.2.2.2.2.2]
        rintro x w12 ⟨rfl, hb12⟩
        have HR12 := Lib.hid (HR11.out.step hb12)
        clear p0 p1 f0 f1 hgr
        go_wp2
        go_roundw
        case rel => exact ⟨j + 1, e + 1, by go_num, by go_num, by omega, by omega, by rw [HCE.out.1, HCE.out.2], HR12.out⟩
        case measure => simp [intOf]; omega
      · obtain rfl : j = N := by omega
        have hnx : sel m ws (rk m ws at1 : Nat) = -1 := by
          rw [HHM.out.rk at1 hat, hcj]
          exact E2.out
        have HNXE := Lib.hid hnx
        have HR := Lib.hid hR
        clear hnx hcj hR p0 p1 f0 f1 hgr
        go_wp2
        go_loopw [13, 14] (fun i _ wx => ∃ t : Nat, i = .int .i64 t ∧ t ≤ zs.length ∧ BoxS w wx w2.heap.size g m ws.length ws) (fun i _ _ => zs.length - (intOf i).toNat)
        case atStart => exact ⟨0, rfl, Nat.zero_le _, HR.out⟩
        case round =>
          obtain ⟨t, rfl, htl, hX⟩ := hrel
          obtain ⟨p0, p1, f0, f1, hgr⟩ := blk2 hX.bx
          have HX := Lib.hid hX
          clear hX
          by_cases hlt3 : t < zs.length
          · obtain ⟨b, off, rfl, hblt, hcell⟩ := hz t hlt3
            have hmz : zd zs t ∈ zs := by rw [zd_lt hlt3]; exact List.getElem_mem _
            have hrng := HHM.out.lo _ hmz
            have hmem := HHM.out.has _ hmz
            obtain ⟨e, he⟩ : ∃ e : Nat, zd zs t = e := ⟨(zd zs t).toNat, by omega⟩
            rw [he] at hcell hmem hrng
            have hmem' : Go.Proofs.YtlmjfcieiengcaaDoor.mem ws e = true := by simpa using hmem
            have hrke := HHM.out.rk e (by omega)
            have HH := Lib.hid (And.intro hrke (And.intro (HHM.out.sel_at hmem') (HHM.out.has_at hmem')))
            have hcle := cnt_le ws e
            clear hmz hmem he hmem' hrke
            have hcz := (HX.out.bl.cell (p := ⟨b, off + t, none⟩) hblt).trans hcell
            have hbw : b < wr.heap.size := Nat.lt_of_lt_of_le hblt HX.out.bl.size
            have hi0 : (0 : Int) ≤ (t : Int) := by omega
            have hi1 : (t : Int) < (zs.length : Int) := by omega
            have SK : ∀ W W1 : World, (W.cell? ⟨w2.heap.size, 0, none⟩ = some (.int .i64 m) ∧ W.cell? ⟨w2.heap.size, 1, none⟩ = some (.slice (some ⟨g, 0, none⟩) ws.length ws.length) ∧ W.cell? ⟨b, off + t, none⟩ = some (.int .i64 e) ∧ b < W.heap.size ∧ BoxS w W w2.heap.size g m ws.length ws) → Below W.heap.size W W1 → (W1.cell? ⟨w2.heap.size, 0, none⟩ = some (.int .i64 m) ∧ W1.cell? ⟨w2.heap.size, 1, none⟩ = some (.slice (some ⟨g, 0, none⟩) ws.length ws.length) ∧ W1.cell? ⟨b, off + t, none⟩ = some (.int .i64 e) ∧ b < W1.heap.size ∧ BoxS w W1 w2.heap.size g m ws.length ws) := by
              rintro W W1 ⟨h1, h2, h3, h4, h5⟩ hb
              exact ⟨(hb.cell (p := ⟨_, 0, none⟩) (blk_lt h5.bx)).trans h1, (hb.cell (p := ⟨_, 1, none⟩) (blk_lt h5.bx)).trans h2, (hb.cell (p := ⟨b, off + t, none⟩) h4).trans h3, Nat.lt_of_lt_of_le h4 hb.size, h5.step hb⟩
            have SKH := Lib.hid SK
            have hX0 : BoxS w wr.drew w2.heap.size g m ws.length ws := ⟨HX.out.bx, HX.out.wb, bl_d HX.out.bl⟩
            have HX0 := Lib.hid hX0
            have h1' := HRK.out e
            rw [HH.out.1] at h1'
            have HR1 := Lib.hid h1'
            have h2' := fun W hW => HSE.out (cnt ws e : Nat) W hW (by omega)
            rw [HH.out.2.1] at h2'
            have HS2 := Lib.hid h2'
            have h3' := HHA.out e
            rw [HH.out.2.2] at h3'
            have HH3 := Lib.hid h3'
            clear SK hcell hX0 h1' h2' h3'
            go_wp2
            go_region_held3 (fun W => W.cell? ⟨w2.heap.size, 0, none⟩ = some (.int .i64 m) ∧ W.cell? ⟨w2.heap.size, 1, none⟩ = some (.slice (some ⟨g, 0, none⟩) ws.length ws.length) ∧ W.cell? ⟨b, off + t, none⟩ = some (.int .i64 e) ∧ b < W.heap.size ∧ BoxS w W w2.heap.size g m ws.length ws) (first | exact ⟨p0, p1, hcz, hbw, HX0.out⟩ | exact SKH.out _ _ (by assumption) (by assumption))
              (first
                | (go_at_call 24; refine (HR1.out _ (And.right (And.right (And.right (And.right (by assumption)))))).mono ?_; rintro x w7 ⟨rfl, hb7⟩))
            rename_i hH
            obtain ⟨q0, q1, q2, q3, hX1⟩ := hH
            have hX10 : BoxS w w7.drew w2.heap.size g m ws.length ws := ⟨hX1.bx, hX1.wb, bl_d hX1.bl⟩
            have HX10 := Lib.hid hX10
            clear p0 p1 hcz hbw HX0 hX1 hX10 hgr f0 f1
            have hg7 := Nat.lt_of_lt_of_le (blk_lt HX10.out.bx) (Nat.le_refl _)
            go_wp2
            go_region_held3 (fun W => W.cell? ⟨w2.heap.size, 0, none⟩ = some (.int .i64 m) ∧ W.cell? ⟨w2.heap.size, 1, none⟩ = some (.slice (some ⟨g, 0, none⟩) ws.length ws.length) ∧ W.cell? ⟨b, off + t, none⟩ = some (.int .i64 e) ∧ b < W.heap.size ∧ BoxS w W w2.heap.size g m ws.length ws) (first | exact ⟨q0, q1, q2, q3, HX10.out⟩ | exact SKH.out _ _ (by assumption) (by assumption))
              (first
                | (go_at_call 33; refine (HH3.out _ (And.right (And.right (And.right (And.right (by assumption)))))).mono ?_; rintro x w8 ⟨rfl, hb8⟩)
                | (go_at_call 26; refine (HS2.out _ (And.right (And.right (And.right (And.right (by assumption)))))).mono ?_; rintro x w9 ⟨rfl, hb9⟩))
            rename_i hH
            obtain ⟨_, _, _, _, hX2⟩ := hH
            have HX2 := Lib.hid hX2
            clear hX2 q0 q1 q2 q3
            go_wp2
            go_roundw
            case rel => exact ⟨t + 1, by go_num, by omega, HX2.out⟩
            case measure => simp [intOf]; omega
          · have hge : zs.length ≤ t := by omega
            clear hlt3
            go_wp2_with fail
            refine (HNX.out at1 _ HX.out).mono ?_
            rw [HNXE.out]
            rintro x w7 ⟨rfl, hb7⟩
            have HX7 := Lib.hid (HX.out.step hb7)
            clear p0 p1 f0 f1 hgr
            obtain ⟨p0, p1, f0, f1, hgr⟩ := blk2 HX7.out.bx
            have hlm : las m ws (-1) = -1 := by unfold las; rw [if_pos (show (-1 : Int) < 0 by decide)]
            go_wp2_with fail
            refine (HLA.out (-1) _ HX7.out).mono ?_
            rw [hlm]
            rintro x w8 ⟨rfl, hb8⟩
            go_wp2
            go_ret
            exact ⟨rfl, bl_t HX7.out.bl hb8⟩
end Go.Proofs.YtlmjfcieiengcaaDoor
