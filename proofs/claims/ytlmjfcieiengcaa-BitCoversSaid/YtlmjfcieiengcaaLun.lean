/- The statements' union and inter of two sets that fit; what is known of several sets at once. -/
import Derived.Test.YtlmjfcieiengcaaInter
import Derived.Test.YtlmjfcieiengcaaAlive
import Derived.Deep.RegionHeld3
namespace Go.Proofs.Ytlmjfcieiengcaa
open Go.RowKit
/-- a set of the universe n -/
structure Fit (n : Nat) (s : SV) : Prop where
  sz : s.sz = n
  ws : Ws s.ws n (mem s.ws)
  ok : s.Ok
theorem Fit.may {n : Nat} {s : SV} (h : Fit n s) (hn : n ≤ 4096) : mayB s.sz s.ws = true := by rw [h.sz]; exact h.ws.mayB hn
theorem fit_two {n : Nat} {a b : SV} (ha : Fit n a) (hb : Fit n b) (hn : n ≤ 4096) : fitE n [a, b] = 0 := by
  unfold fitE
  have hs : szB n = true := by unfold szB; simp; omega
  have h1 := ha.may hn
  have h2 := hb.may hn
  rw [ha.sz] at h1
  rw [hb.sz] at h2
  simp [h1, h2, hs, ha.sz, hb.sz]
theorem rdS_two {W : World} {k : Nat} {a b : SV} {t : TypeId} (h : W.heap[k]? = some (.cells #[.int .i64 a.sz, .slice a.A a.ws.length a.c, .int .i64 b.sz, .slice b.A b.ws.length b.c] t (0, 0))) (ha : Rd W a.A a.ws) (hb : Rd W b.A b.ws) : RdS W (some ⟨k, 0, none⟩) [a, b] := by
  intro j hj
  have hj2 : j = 0 ∨ j = 1 := by simp at hj; omega
  refine ⟨k, 0, rfl, blk_lt h, ?_⟩
  rcases hj2 with rfl | rfl
  · refine ⟨?_, ?_, ha⟩ <;> simp [World.cell?, h, sd]
  · refine ⟨?_, ?_, hb⟩ <;> simp [World.cell?, h, sd]

set_option maxRecDepth 100000 in
set_option maxHeartbeats 1000000 in
theorem lunion_any (n : Nat) (a b : SV) (w : World) (hfa : Fit n a) (hfb : Fit n b) (ha : Rd w a.A a.ws) (hb : Rd w b.A b.ws) (hn : n ≤ 4096) :
    Calls Try.prog 26 #[.int .i64 n, .agg #[.int .i64 a.sz, .slice a.A a.ws.length a.c], .agg #[.int .i64 b.sz, .slice b.A b.ws.length b.c]] w fun x w' => ∃ s : SV, x = .returned (.tuple #[.agg #[.int .i64 s.sz, .slice s.A s.ws.length s.c], .bool true]) ∧ Fit n s ∧ Rd w' s.A s.ws ∧ (∀ e, e < n → mem s.ws e = (mem a.ws e || mem b.ws e)) ∧ Below w.heap.size w w' := by
  obtain ⟨w1, hw1⟩ : ∃ w1, w1 = ((w.alloc (.cells #[.int .i64 a.sz, .slice a.A a.ws.length a.c] 24)).alloc (.cells #[.int .i64 b.sz, .slice b.A b.ws.length b.c] 24)).alloc (.cells #[.int .i64 0, .slice none 0 0] 24) := ⟨_, rfl⟩
  have hb1 : Below w.heap.size w w1 := by rw [hw1]; exact bl_a (bl_a (bl_a (Below.refl _ _) _) _) _
  have hr1 : w1.heap[w.heap.size + 2]? = some (.cells #[.int .i64 0, .slice none 0 0] 24 (0, 0)) := by rw [hw1]; exact ha_new _ _ _ (by simp)
  obtain ⟨w2, hw2⟩ : ∃ w2, w2 = w1.alloc (.cells #[.int .i64 a.sz, .slice a.A a.ws.length a.c, .int .i64 b.sz, .slice b.A b.ws.length b.c] 24) := ⟨_, rfl⟩
  have hb2 : Below w.heap.size w w2 := by rw [hw2]; exact bl_a hb1 _
  have hr2 : w2.heap[w.heap.size + 2]? = some (.cells #[.int .i64 0, .slice none 0 0] 24 (0, 0)) := by rw [hw2]; exact (ha_old _ _ _ (blk_lt hr1)).trans hr1
  have hl2 : RdS w2 (some ⟨w.heap.size + 1 + 1 + 1, 0, none⟩) [a, b] := by
    rw [hw2]
    exact rdS_two (ha_new _ _ _ (by rw [hw1]; simp)) (ha.below (bl_a hb1 _)) (hb.below (bl_a hb1 _))
  have hfit : fitE n [a, b] = 0 := fit_two hfa hfb hn
  have hun := union_any n (some ⟨w.heap.size + 1 + 1 + 1, 0, none⟩) 2 [a, b] w2 hl2 (by intro s hs; simp at hs; rcases hs with rfl | rfl; exact hfa.ok; exact hfb.ok) (by simp)
  have hsp : unspec (fun x y => x || y) (fun _ => false) n [a, b] = .set n (fun e => (false || mem a.ws e) || mem b.ws e) := by unfold unspec; rw [if_pos hfit]; rfl
  rw [hsp] at hun
  rw [hw2, hw1] at hun
  have HUN := Lib.hid hun
  have HB := Lib.hid (And.intro hb2 hr2)
  rw [hw2, hw1] at HB
  clear hw1 hw2 hb1 hr1 hb2 hr2 hl2 hfit hun hsp
  go_enter Try.func26, Try.ntmps26
  go_wp2_with fail
  refine HUN.out.mono ?_
  intro x w3 hpost
  obtain ⟨s, e, rfl, hs, hb3⟩ := hpost.out
  obtain ⟨h1, h2, h3, rfl⟩ := hs
  have hr3 := (hb3.block _ (blk_lt HB.out.2)).trans HB.out.2
  have H3 := Lib.hid (And.intro h1 (And.intro h2 (And.intro h3 (And.intro hr3 (bl_t HB.out.1 hb3)))))
  have hlt3 := blk_lt hr3
  obtain ⟨p0, p1, f0, f1, hg⟩ := blk2 hr3
  obtain ⟨q0, q1, r0, r1, hg'⟩ := blk2 (ha_new w3 (.cells #[.int .i64 s.sz, .slice s.A s.ws.length s.c] 24) w3.heap.size rfl)
  clear h1 h2 h3 hr3 hb3 hpost
  go_wp2
  go_region_with (go_at_call 10; refine (num_any _ _).mono ?_; rintro e' w' ⟨rfl, rfl⟩)
  all_goals
    clear p0 p1 f0 f1 q0 q1 r0 r1 hg hg'
    have hO5 := ((H3.out.2.1.other (p := ⟨w.heap.size + 2, 0, none⟩) (by simp) (.int .i64 s.sz)).other (p := ⟨w.heap.size + 2, 1, none⟩) (by simp) (.slice s.A s.ws.length s.c)).below (bl_a (Below.refl _ _) (.cells #[.int .i64 s.sz, .slice s.A s.ws.length s.c] 24))
    have hR5 := (ha_old ((w3.setCell ⟨w.heap.size + 2, 0, none⟩ (.int .i64 s.sz)).setCell ⟨w.heap.size + 2, 1, none⟩ (.slice s.A s.ws.length s.c)) (.cells #[.int .i64 s.sz, .slice s.A s.ws.length s.c] 24) _ (by rw [size_set, size_set]; exact hlt3)).trans (hs_same (hs_same H3.out.2.2.2.1 0 (.int .i64 s.sz)) 1 (.slice s.A s.ws.length s.c))
    have hB5 := bl_d (bl_a (bl_s (bl_s H3.out.2.2.2.2 (p := ⟨w.heap.size + 2, 0, none⟩) (by simp) (.int .i64 s.sz)) (p := ⟨w.heap.size + 2, 1, none⟩) (by simp) (.slice s.A s.ws.length s.c)) (.cells #[.int .i64 s.sz, .slice s.A s.ws.length s.c] 24))
    have H5 := Lib.hid (And.intro hO5 (And.intro hR5 hB5))
    clear hO5 hR5 hB5
    go_wp2
    refine bodyPost_ret (res_ct rfl _ _ (w.heap.size + 2) 24 #[.int .i64 s.sz, .slice s.A s.ws.length s.c] (0, 0) _ rfl H5.out.2.1 Try.underlying24 rfl (by kernel_rfl)) rfl ?_
    refine ⟨s, rfl, ⟨H3.out.1, H3.out.2.2.1.self, H3.out.2.2.1.lt, H5.out.1.nil, by rw [H3.out.2.2.1.len, nw_eq]; omega, H5.out.1.cap⟩, H5.out.1.rd, fun e he => ?_, H5.out.2.2⟩
    rw [H3.out.2.2.1.has]
    simp [he]

set_option maxRecDepth 100000 in
set_option maxHeartbeats 1000000 in
theorem linter_any (n : Nat) (a b : SV) (w : World) (hfa : Fit n a) (hfb : Fit n b) (ha : Rd w a.A a.ws) (hb : Rd w b.A b.ws) (hn : n ≤ 4096) :
    Calls Try.prog 27 #[.int .i64 n, .agg #[.int .i64 a.sz, .slice a.A a.ws.length a.c], .agg #[.int .i64 b.sz, .slice b.A b.ws.length b.c]] w fun x w' => ∃ s : SV, x = .returned (.tuple #[.agg #[.int .i64 s.sz, .slice s.A s.ws.length s.c], .bool true]) ∧ Fit n s ∧ Rd w' s.A s.ws ∧ (∀ e, e < n → mem s.ws e = (mem a.ws e && mem b.ws e)) ∧ Below w.heap.size w w' := by
  obtain ⟨w1, hw1⟩ : ∃ w1, w1 = ((w.alloc (.cells #[.int .i64 a.sz, .slice a.A a.ws.length a.c] 24)).alloc (.cells #[.int .i64 b.sz, .slice b.A b.ws.length b.c] 24)).alloc (.cells #[.int .i64 0, .slice none 0 0] 24) := ⟨_, rfl⟩
  have hb1 : Below w.heap.size w w1 := by rw [hw1]; exact bl_a (bl_a (bl_a (Below.refl _ _) _) _) _
  have hr1 : w1.heap[w.heap.size + 2]? = some (.cells #[.int .i64 0, .slice none 0 0] 24 (0, 0)) := by rw [hw1]; exact ha_new _ _ _ (by simp)
  obtain ⟨w2, hw2⟩ : ∃ w2, w2 = w1.alloc (.cells #[.int .i64 a.sz, .slice a.A a.ws.length a.c, .int .i64 b.sz, .slice b.A b.ws.length b.c] 24) := ⟨_, rfl⟩
  have hb2 : Below w.heap.size w w2 := by rw [hw2]; exact bl_a hb1 _
  have hr2 : w2.heap[w.heap.size + 2]? = some (.cells #[.int .i64 0, .slice none 0 0] 24 (0, 0)) := by rw [hw2]; exact (ha_old _ _ _ (blk_lt hr1)).trans hr1
  have hl2 : RdS w2 (some ⟨w.heap.size + 1 + 1 + 1, 0, none⟩) [a, b] := by
    rw [hw2]
    exact rdS_two (ha_new _ _ _ (by rw [hw1]; simp)) (ha.below (bl_a hb1 _)) (hb.below (bl_a hb1 _))
  have hfit : fitE n [a, b] = 0 := fit_two hfa hfb hn
  have hun := inter_any n (some ⟨w.heap.size + 1 + 1 + 1, 0, none⟩) 2 [a, b] w2 hl2 (by intro s hs; simp at hs; rcases hs with rfl | rfl; exact hfa.ok; exact hfb.ok) (by simp)
  have hsp : unspec (fun x y => x && y) (fun _ => true) n [a, b] = .set n (fun e => (true && mem a.ws e) && mem b.ws e) := by unfold unspec; rw [if_pos hfit]; rfl
  rw [hsp] at hun
  rw [hw2, hw1] at hun
  have HUN := Lib.hid hun
  have HB := Lib.hid (And.intro hb2 hr2)
  rw [hw2, hw1] at HB
  clear hw1 hw2 hb1 hr1 hb2 hr2 hl2 hfit hun hsp
  go_enter Try.func27, Try.ntmps27
  go_wp2_with fail
  refine HUN.out.mono ?_
  intro x w3 hpost
  obtain ⟨s, e, rfl, hs, hb3⟩ := hpost.out
  obtain ⟨h1, h2, h3, rfl⟩ := hs
  have hr3 := (hb3.block _ (blk_lt HB.out.2)).trans HB.out.2
  have H3 := Lib.hid (And.intro h1 (And.intro h2 (And.intro h3 (And.intro hr3 (bl_t HB.out.1 hb3)))))
  have hlt3 := blk_lt hr3
  obtain ⟨p0, p1, f0, f1, hg⟩ := blk2 hr3
  obtain ⟨q0, q1, r0, r1, hg'⟩ := blk2 (ha_new w3 (.cells #[.int .i64 s.sz, .slice s.A s.ws.length s.c] 24) w3.heap.size rfl)
  clear h1 h2 h3 hr3 hb3 hpost
  go_wp2
  go_region_with (go_at_call 10; refine (num_any _ _).mono ?_; rintro e' w' ⟨rfl, rfl⟩)
  all_goals
    clear p0 p1 f0 f1 q0 q1 r0 r1 hg hg'
    have hO5 := ((H3.out.2.1.other (p := ⟨w.heap.size + 2, 0, none⟩) (by simp) (.int .i64 s.sz)).other (p := ⟨w.heap.size + 2, 1, none⟩) (by simp) (.slice s.A s.ws.length s.c)).below (bl_a (Below.refl _ _) (.cells #[.int .i64 s.sz, .slice s.A s.ws.length s.c] 24))
    have hR5 := (ha_old ((w3.setCell ⟨w.heap.size + 2, 0, none⟩ (.int .i64 s.sz)).setCell ⟨w.heap.size + 2, 1, none⟩ (.slice s.A s.ws.length s.c)) (.cells #[.int .i64 s.sz, .slice s.A s.ws.length s.c] 24) _ (by rw [size_set, size_set]; exact hlt3)).trans (hs_same (hs_same H3.out.2.2.2.1 0 (.int .i64 s.sz)) 1 (.slice s.A s.ws.length s.c))
    have hB5 := bl_d (bl_a (bl_s (bl_s H3.out.2.2.2.2 (p := ⟨w.heap.size + 2, 0, none⟩) (by simp) (.int .i64 s.sz)) (p := ⟨w.heap.size + 2, 1, none⟩) (by simp) (.slice s.A s.ws.length s.c)) (.cells #[.int .i64 s.sz, .slice s.A s.ws.length s.c] 24))
    have H5 := Lib.hid (And.intro hO5 (And.intro hR5 hB5))
    clear hO5 hR5 hB5
    go_wp2
    refine bodyPost_ret (res_ct rfl _ _ (w.heap.size + 2) 24 #[.int .i64 s.sz, .slice s.A s.ws.length s.c] (0, 0) _ rfl H5.out.2.1 Try.underlying24 rfl (by kernel_rfl)) rfl ?_
    refine ⟨s, rfl, ⟨H3.out.1, H3.out.2.2.1.self, H3.out.2.2.1.lt, H5.out.1.nil, by rw [H3.out.2.2.1.len, nw_eq]; omega, H5.out.1.cap⟩, H5.out.1.rd, fun e he => ?_, H5.out.2.2⟩
    rw [H3.out.2.2.1.has]
    simp [he]

end Go.Proofs.Ytlmjfcieiengcaa
