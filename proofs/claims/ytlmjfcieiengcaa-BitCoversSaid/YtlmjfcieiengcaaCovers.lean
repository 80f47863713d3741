/- slopelaw3.BitCovers returns true. The lengths are within the reach. -/
import Derived.Test.YtlmjfcieiengcaaCover
import Derived.Test.YtlmjfcieiengcaaRCover
import Derived.Test.YtlmjfcieiengcaaTwins
namespace Go.Proofs.Ytlmjfcieiengcaa
open Go.RowKit
theorem tw_map {ts l : List SV} (hlen : ts.length = l.length) (h : ∀ j, j < l.length → (sd ts j).sz = (sd l j).sz ∧ (sd ts j).ws = (sd l j).ws) : ts.map (fun s => (s.sz, s.ws)) = l.map (fun s => (s.sz, s.ws)) := by
  refine List.ext_getElem (by simp [hlen]) fun j h1 h2 => ?_
  have hj : j < l.length := by simpa using h2
  obtain ⟨e1, e2⟩ := h j hj
  rw [sd_lt (by omega), sd_lt hj] at e1 e2
  simp [e1, e2]
theorem any_map' {ts l : List SV} (h : ts.map (fun s => (s.sz, s.ws)) = l.map (fun s => (s.sz, s.ws))) (P : Int × List Nat → Bool) : (ts.any fun s => P (s.sz, s.ws)) = (l.any fun s => P (s.sz, s.ws)) := by
  have e1 : (ts.any fun s => P (s.sz, s.ws)) = (ts.map fun s => (s.sz, s.ws)).any P := by rw [List.any_map]; rfl
  have e2 : (l.any fun s => P (s.sz, s.ws)) = (l.map fun s => (s.sz, s.ws)).any P := by rw [List.any_map]; rfl
  rw [e1, e2, h]
theorem fitE_tw {ts l : List SV} (h : ts.map (fun s => (s.sz, s.ws)) = l.map (fun s => (s.sz, s.ws))) (size : Int) : fitE size ts = fitE size l := by
  have e1 := any_map' h (fun p => !mayB p.1 p.2)
  have e2 := any_map' h (fun p => decide (p.1 ≠ size))
  unfold fitE
  simp only at e1 e2
  rw [e1, e2]
theorem covE_tw {ts l : List SV} {u s : SV} (h : ts.map (fun s => (s.sz, s.ws)) = l.map (fun s => (s.sz, s.ws))) (hz : u.sz = s.sz) (hw : u.ws = s.ws) (size : Int) : covE size ts u = covE size l s := by
  have hl : ts.length = l.length := by have := congrArg List.length h; simpa using this
  unfold covE mtB uB
  rw [fitE_tw h, hl, hz, hw]
  have e : ∀ e, (ts.any fun s => mem s.ws e) = (l.any fun s => mem s.ws e) := fun e => any_map' h (fun p => mem p.2 e)
  simp only [e]
theorem gS_tw {ts l : List SV} (hlen : ts.length = l.length) (h : ∀ j, j < l.length → (sd ts j).sz = (sd l j).sz ∧ (sd ts j).ws = (sd l j).ws) : gS ts = gS l := by
  funext j e
  unfold gS
  by_cases hj : j < l.length
  · rw [(h j hj).2]
  · unfold sd
    rw [List.getD_eq_getElem?_getD, List.getD_eq_getElem?_getD, List.getElem?_eq_none (by omega), List.getElem?_eq_none (by omega)]
theorem tw_ok {w : World} {base : Nat} {ts l : List SV} (hlen : ts.length = l.length) (h : ∀ j, j < l.length → TwW w base (sd ts j) (sd l j)) (hok : ∀ s ∈ l, s.Ok) : ∀ t ∈ ts, t.Ok := by
  intro t ht
  obtain ⟨j, hj, rfl⟩ := List.mem_iff_getElem.1 ht
  rw [← sd_lt hj]
  obtain ⟨h1, h2, g, h3, _, h5, _⟩ := h j (by omega)
  have ho := hok _ (sd_mem (j := j) (by omega : j < l.length))
  exact ⟨by rw [h2]; exact ho.lt, fun e => (by rw [h3] at e; cases e), by rw [h2]; exact ho.len, by rw [h2]; omega⟩
theorem tw_rds {w : World} {base g : Nat} {ts l m : List SV} (hlen : ts.length = l.length) (hs : SWB w g (ts ++ m)) (h : ∀ j, j < l.length → TwW w base (sd ts j) (sd l j)) : RdS w (some ⟨g, 0, none⟩) ts := by
  intro j hj
  obtain ⟨k1, k2⟩ := hs.pre.cell hj
  obtain ⟨h1, h2, g', h3, _, h5, h6⟩ := h j (by omega)
  refine ⟨g, 0, rfl, hs.lt, by rw [Nat.zero_add]; exact k1, by rw [Nat.zero_add]; exact k2, ?_⟩
  rw [h3, h2]
  exact h6.rd.pre
set_option maxRecDepth 100000 in
set_option maxHeartbeats 10000000 in
theorem bitcovers_any (size : Int) (B : Option Addr) (d : Nat) (l : List SV) (s : SV) (w : World) (hl : RdS w B l) (hok : ∀ s ∈ l, s.Ok) (hn : l.length ≤ 4398046511103) (hs : Rd w s.A s.ws) (hso : s.Ok) :
    Calls Try.prog 4 #[.agg #[.int .i64 size, .slice B l.length d], .agg #[.int .i64 s.sz, .slice s.A s.ws.length s.c]] w fun x w' => x = .returned (.bool true) ∧ Below w.heap.size w w' := by
  obtain ⟨w1, hw1⟩ : ∃ w1, w1 = (w.alloc (.cells #[.int .i64 size, .slice B l.length d] 35)).alloc (.cells #[.int .i64 s.sz, .slice s.A s.ws.length s.c] 24) := ⟨_, rfl⟩
  have hbl1 : Below w.heap.size w w1 := by rw [hw1]; exact bl_a (bl_a (Below.refl _ _) _) _
  have hbt1 : w1.heap[w.heap.size]? = some (.cells #[.int .i64 size, .slice B l.length d] 35 (0, 0)) := by rw [hw1]; exact (ha_old _ _ _ (by simp)).trans (ha_new _ _ _ rfl)
  have hbs1 : w1.heap[w.heap.size + 1]? = some (.cells #[.int .i64 s.sz, .slice s.A s.ws.length s.c] 24 (0, 0)) := by rw [hw1]; exact ha_new _ _ _ (by simp)
  have HTS := Lib.hid (twins_any B d l w1 (hl.below hbl1) hok hn)
  have H1 := Lib.hid (And.intro hbl1 (And.intro hbt1 hbs1))
  rw [hw1] at HTS
  clear hbl1 hbt1 hbs1
  go_enter Try.func4, Try.ntmps4
  go_wp2_with fail
  refine HTS.out.mono ?_
  rw [← hw1]
  rintro x w2 ⟨g, c', ts, rfl, hlen, hc', hg, hsw, htw, hb2⟩
  obtain ⟨p0, p1, f0, f1, hg0⟩ := blk2 ((hb2.block _ (blk_lt H1.out.2.2)).trans H1.out.2.2)
  have hr2 := hs.below (bl_t H1.out.1 hb2)
  have HSW := Lib.hid hsw
  have HTW := Lib.hid htw
  clear hsw htw
  go_wp2_with fail
  refine (twin_any s.sz s.A s.c s.ws _ hr2 hso.nil hso.len).mono ?_
  rintro x w3 ⟨gu, cu, rfl, hgu, hcu, hwu, hb3⟩
  have hb13 := bl_t hb2 hb3
  have hcv := fun W h1 h2 => cover_any size (some ⟨g, 0, none⟩) c' ts ⟨s.sz, some ⟨gu, 0, none⟩, cu, s.ws⟩ W h1 (tw_ok hlen HTW.out hok) (by omega) h2 ⟨hso.lt, (fun h => by cases h), hso.len, by show s.ws.length ≤ cu; omega⟩
  simp only [hlen] at hcv
  have HCV := Lib.hid hcv
  have hsame : ∀ j, j < l.length → (sd ts j).sz = (sd l j).sz ∧ (sd ts j).ws = (sd l j).ws := fun j hj => ⟨(HTW.out j hj).1, (HTW.out j hj).2.1⟩
  have HCE := Lib.hid (covE_tw (u := ⟨s.sz, some ⟨gu, 0, none⟩, cu, s.ws⟩) (s := s) (tw_map hlen hsame) rfl rfl size)
  have HGS := Lib.hid (gS_tw hlen hsame)
  have HLEN := Lib.hid hlen
  clear p0 p1 f0 f1 hg0 hcv hsame hlen
  have hu4 := hwu.below (bl_a (Below.refl w3.heap.size w3) (.cells #[.int .i64 s.sz, .slice (some ⟨gu, 0, none⟩) s.ws.length cu] 24))
  have hby : (w3.alloc (.cells #[.int .i64 s.sz, .slice (some ⟨gu, 0, none⟩) s.ws.length cu] 24)).heap[w3.heap.size]? = some (.cells #[.int .i64 s.sz, .slice (some ⟨gu, 0, none⟩) s.ws.length cu] 24 (0, 0)) := ha_new _ _ _ rfl
  obtain ⟨y0, y1, m0, m1, hgy⟩ := blk2 hby
  obtain ⟨q0, q1, r0, r1, hg1⟩ := blk2 ((hb13.block _ (blk_lt H1.out.2.1)).trans H1.out.2.1)
  have hrd4 := (tw_rds HLEN.out HSW.out HTW.out).below (bl_a hb3 (.cells #[.int .i64 s.sz, .slice (some ⟨gu, 0, none⟩) s.ws.length cu] 24))
  have HW4 := Lib.hid (And.intro hby (And.intro hu4 hrd4))
  clear hby hu4 hrd4
  go_wp2_with fail
  refine (HCV.out _ HW4.out.2.2 HW4.out.2.1.rd.pre).mono ?_
  intro x w5 hp
  obtain ⟨hb5, A1, c1, z1, rfl, hz1, hzl1, hzc1, hzn1⟩ := hp
  clear y0 y1 m0 m1 q0 q1 r0 r1 hgy hg1
  have hb35 := bl_t (bl_a (Below.refl w3.heap.size w3) (.cells #[.int .i64 s.sz, .slice (some ⟨gu, 0, none⟩) s.ws.length cu] 24)) hb5
  have hb15 := bl_t hb13 hb35
  obtain ⟨q0, q1, r0, r1, hg1⟩ := blk2 ((hb15.block _ (blk_lt H1.out.2.1)).trans H1.out.2.1)
  obtain ⟨p0, p1, f0, f1, hg0⟩ := blk2 ((hb15.block _ (blk_lt H1.out.2.2)).trans H1.out.2.2)
  have HZ1 := Lib.hid (And.intro hz1 (And.intro hzc1 hzn1))
  clear hz1 hzc1 hzn1
  go_wp2_with fail
  refine (rcover_any size B d l s _ (hl.below (bl_t H1.out.1 hb15)) hok (by omega) (hs.below (bl_t H1.out.1 hb15)) hso).mono ?_
  intro x w6 hp
  obtain ⟨hb6, A2, c2, z2, rfl, hz2, hzl2, hzc2, hzn2⟩ := hp
  clear q0 q1 r0 r1 hg1 p0 p1 f0 f1 hg0
  have hzz : z1 = z2 := by
    by_cases h0 : covE size l s = 0
    · have e1 := HZ1.out.2.1 (by rw [HCE.out]; exact h0)
      have e2 := hzc2 h0
      rw [HGS.out, HLEN.out] at e1
      exact e1.unique e2
    · rw [HZ1.out.2.2 (by rw [HCE.out]; exact h0), hzn2 h0]
  subst hzz
  rw [HCE.out]
  have HZ2 := Lib.hid hz2
  clear hz2 hzc2 hzn2
  have hsi : sameIB z1 z1 = true := by unfold sameIB; simp
  have hb36 := bl_t hb35 hb6
  have hb16 := bl_t hb15 hb6
  go_wp2_with fail
  refine (sameInts_any A1 A2 c1 c2 z1 z1 _ (HZ1.out.1.below hb6) HZ2.out (by omega)).mono ?_
  rw [hsi]
  rintro x w7 ⟨rfl, hb7⟩
  have hb17 := bl_t hb16 hb7
  have hb37 := bl_t hb36 hb7
  have hb27 := bl_t hb3 hb37
  have hb47 := bl_t (bl_t hb5 hb6) hb7
  obtain ⟨q0, q1, r0, r1, hg1⟩ := blk2 ((hb17.block _ (blk_lt H1.out.2.1)).trans H1.out.2.1)
  have hka := keptall_any w1.heap.size g c' ts B d l w7 (HSW.out.below hb27) HLEN.out hc' (fun j hj => (HTW.out j hj).below hb27) (hl.below (bl_t H1.out.1 hb17)) hok hn
  rw [HLEN.out] at hka
  have HKA := Lib.hid hka
  clear hka
  go_wp2_with (go_at_call 10; refine (num_any _ _).mono ?_; rintro e' w' ⟨rfl, rfl⟩)
  refine HKA.out.mono ?_
  rintro x w8 ⟨rfl, hb8⟩
  clear q0 q1 r0 r1 hg1
  have hb18 := bl_t hb17 hb8
  have hb48 := bl_t hb47 hb8
  obtain ⟨p0, p1, f0, f1, hg0⟩ := blk2 ((hb18.block _ (blk_lt H1.out.2.2)).trans H1.out.2.2)
  obtain ⟨y0, y1, m0, m1, hgy⟩ := blk2 ((hb48.block _ (blk_lt HW4.out.1)).trans HW4.out.1)
  go_wp2_with fail
  refine (kept_any s.sz s.A s.c gu cu s.ws _ (hwu.below (bl_t hb37 hb8)) hcu (hs.below (bl_t H1.out.1 hb18)) hso.len).mono ?_
  rintro x w9 ⟨rfl, hb9⟩
  clear p0 p1 f0 f1 hg0 y0 y1 m0 m1 hgy
  go_wp2
  go_ret
  exact ⟨rfl, bl_t (bl_t H1.out.1 hb18) hb9⟩
end Go.Proofs.Ytlmjfcieiengcaa
