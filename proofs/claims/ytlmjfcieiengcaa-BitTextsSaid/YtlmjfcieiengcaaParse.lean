/- bitset.Parse answers what pspec says with the numbers cut at 2^20. No condition. -/
import Derived.Test.YtlmjfcieiengcaaPars
import Derived.Test.YtlmjfcieiengcaaBools
namespace Go.Proofs.Ytlmjfcieiengcaa
open Go.RowKit
/-- how an answer of a Parse lies in memory -/
def AnsPost (an : Ans) (w : World) (x : Ending) (w' : World) : Prop :=
  Below w.heap.size w w' ∧ match an with
  | .err p e => x = .returned (.tuple #[.agg #[.int .i64 0, .slice none 0 0], .int .i64 p, .int .i64 e])
  | .set n f => ∃ g ws, x = .returned (.tuple #[.agg #[.int .i64 n, .slice (some ⟨g, 0, none⟩) ws.length ws.length], .int .i64 0, .int .i64 0]) ∧ WB w' g ws ∧ Ws ws n f
/-- the numbers from the j-th on are still to come -/
structure PRel (w w1 wr : World) (s : ByteArray) (n g gs : Nat) (l : List Tok) (j : Nat) (ah : Int) (prev : Option Nat) (f : Nat → Bool) (ws : List Nat) : Prop where
  hj : j ≤ l.length
  an : pspec s (cv s) = pgo n prev (vals (cv s) (l.drop j)) f
  ah : ah = match prev with | none => -2 | some p => (p : Int)
  pn : ∀ p, prev = some p → p < n
  p0 : prev = none → j = 0
  set : Ws ws n f
  row : WB wr g ws
  bs : wr.heap[gs]? = some (.cells #[.int .i64 n, .slice (some ⟨g, 0, none⟩) (nw n) (nw n)] 24 (0, 0))
  hgs : w1.heap.size ≤ gs
  hg : w1.heap.size ≤ g
  ne : gs ≠ g
  b1 : Below w1.heap.size w1 wr
theorem PRel.below {w w1 wr w3 : World} {s : ByteArray} {n g gs : Nat} {l : List Tok} {j : Nat} {ah : Int} {prev : Option Nat} {f : Nat → Bool} {ws : List Nat} (h : PRel w w1 wr s n g gs l j ah prev f ws) (hb : Below wr.heap.size wr w3) : PRel w w1 w3 s n g gs l j ah prev f ws :=
  ⟨h.hj, h.an, h.ah, h.pn, h.p0, h.set, h.row.below hb, (hb.block _ (blk_lt h.bs)).trans h.bs, h.hgs, h.hg, h.ne, bl_t h.b1 hb⟩
theorem pgo_step {n : Nat} {prev : Option Nat} {V : Nat → Nat → Nat} {l : List Tok} {j : Nat} {f : Nat → Bool} (hj : j < l.length) :
    pgo n prev (vals V (l.drop j)) f = (if ¬ V l[j].a (l[j].e - l[j].a) < n then .err l[j].a 62 else if low prev (V l[j].a (l[j].e - l[j].a)) (l[j].t == 2) = true then .err l[j].a 1 else pgo n (some (V l[j].a (l[j].e - l[j].a))) (vals V (l.drop (j + 1))) (more prev (V l[j].a (l[j].e - l[j].a)) (l[j].t == 2) f)) := by
  rw [List.drop_eq_getElem_cons hj]
  rfl
theorem pgo_end {n : Nat} {prev : Option Nat} {V : Nat → Nat → Nat} {l : List Tok} {j : Nat} {f : Nat → Bool} (hj : l.length ≤ j) : pgo n prev (vals V (l.drop j)) f = .set n f := by
  rw [List.drop_eq_nil_of_le hj]
  rfl
/-- the inner loop: from a on, below k, the numbers are in -/
structure IRel (w1 wi : World) (n g gs gn : Nat) (nb : Array Value) (f : Nat → Bool) (a k v : Nat) (ws : List Nat) : Prop where
  ak : a ≤ k
  kv : k ≤ v + 1
  set : Ws ws n (fun e => f e || decide (a ≤ e ∧ e < k))
  row : WB wi g ws
  bs : wi.heap[gs]? = some (.cells #[.int .i64 n, .slice (some ⟨g, 0, none⟩) (nw n) (nw n)] 24 (0, 0))
  bn : wi.heap[gn]? = some (.cells nb 63 (0, 0))
  b1 : Below w1.heap.size w1 wi
theorem chained_first {s : ByteArray} {e : Nat} {l : List Tok} (h : Chained s e l) (he : by_ s e = 58) (hl : 0 < l.length) : l[0].t = 1 := by
  cases l with
  | nil => simp at hl
  | cons x l => rw [List.getElem_cons_zero, h.2.1, he]; rfl
set_option maxHeartbeats 10000000 in
set_option maxRecDepth 100000 in
theorem parse_any (s : ByteArray) (w : World) (hs : s.size ≤ 9223372036854775807) : Calls Try.prog 7 #[.string s] w (AnsPost (pspec s (cv s)) w) := by
  by_cases h0 : 65536 < s.size
  · have HP : Hid (pspec s (cv s) = .err 65536 4) := by unfold Hid pspec; rw [if_pos h0]
    go_enter Try.func7, Try.ntmps7
    go_wp2
    refine bodyPost_ret (res_ctt rfl _ _ (w.heap.size) 24 #[.int .i64 0, .slice none 0 0] (0, 0) _ rfl (ha_new _ _ _ rfl) Try.underlying24 rfl (by kernel_rfl)) rfl ?_
    rw [HP.out]
    exact ⟨bl_a (Below.refl _ _) _, rfl⟩
  · have h0' : s.size ≤ 65536 := by omega
    go_enter Try.func7, Try.ntmps7
    go_wp2_with fail
    refine (numbers_any s _ h0').mono ?_
    rintro x w1 ⟨hb, ⟨p, hp, hps, rfl⟩ | ⟨hok, A, c, rfl, hown⟩⟩
    · have hb0 := (hb.block w.heap.size (by simp)).trans (ha_new w _ _ rfl)
      obtain ⟨p0, p1, f0, f1, hg⟩ := blk2 hb0
      have HP : Hid (pspec s (cv s) = .err p 5) := by
        unfold Hid pspec
        rw [if_neg h0]
        split
        · rename_i h; rw [h] at hp; injection hp with hp; rw [hp]
        · rename_i h; rw [h] at hp; simp at hp
        · rename_i h; rw [h] at hp; simp at hp
      clear hp
      go_wp2
      refine bodyPost_ret (res_ctt rfl _ _ (w.heap.size) 24 #[.int .i64 0, .slice none 0 0] (0, 0) _ rfl (hs_same (hs_same hb0 0 _) 1 _) Try.underlying24 rfl (by kernel_rfl)) rfl ?_
      rw [HP.out]
      exact ⟨bl_s (bl_s (bl_t (bl_a (Below.refl _ _) _) hb) (Nat.le_refl _) _) (Nat.le_refl _) _, rfl⟩
    · obtain ⟨e, l, hl, hch, he, h58⟩ := scan_head hok
      rw [hl] at hown ⊢
      obtain ⟨i0, hi0, hz0, hz1, hz2⟩ := info_parts' info_number
      obtain ⟨gA, rfl, hgA0, hgA1, _, hcl, hfr⟩ := own_at hown (by simp)
      obtain ⟨A1, hcut, hA1⟩ := cut_l 58 63 Try.underlying58 hi0 (some ⟨gA, 0, none⟩) (⟨0, e, 0⟩ :: l : List Tok).length c 1 (by simp) (by obtain ⟨_, _, h1, h2⟩ := own_slice hown; injection h1 with _ _ h3; omega)
      have hll : (⟨0, e, 0⟩ :: l : List Tok).length = l.length + 1 := rfl
      rw [hll] at hcut hown hcl ⊢
      have hlmax : l.length + 1 ≤ 9223372036854775807 := by
        rcases hown.2 with ⟨_, h⟩ | ⟨_, cap, _, _, _, _, h1, h2, _⟩
        · omega
        · simp only [maxLen] at h2; omega
      have hcut1 : ∀ W : World, (Instr.slice 58 (.slice (some ⟨gA, 0, none⟩) (l.length + 1) c) (some (.int .i64 1)) none none).run Try.prog W = .ok (.slice A1 l.length (c - 1)) W := hcut
      clear hcut
      have hc0 := (hcl 0 (by omega)).trans (tcells_get s (⟨0, e, 0⟩ :: l) 0 (by simp)).1
      simp only [List.getElem_cons_zero, Nat.sub_zero] at hc0
      obtain ⟨n, hn⟩ : ∃ n, n = cv s 0 e := ⟨_, rfl⟩
      rw [← hn] at hc0
      have HN := Lib.hid hn
      have hnl : n ≤ 1048576 := by rw [hn]; exact cv_le _ _ _
      have HCL := Lib.hid hcl
      clear hn hll hcl hfr
      have hb0 := (hb.block w.heap.size (by simp)).trans (ha_new w _ _ rfl)
      obtain ⟨p0, p1, f0, f1, hg⟩ := blk2 hb0
      by_cases hn4 : n ≤ 4096
      · have hns : szB n = true := by unfold szB; simp; omega
        go_wp2_with (first | (go_at_call 33; refine (sized_any n _).mono ?_; rintro e' w' ⟨rfl, rfl⟩) | (go_at_call 34; refine (blank_any n (by omega) _).mono ?_; rintro e' w2 ⟨g, rfl, hg1, hwb, hb2⟩))
        have hb02 := (hb2.block w.heap.size (blk_lt hb0)).trans hb0
        have HB0 := Lib.hid hb0
        clear hb0 p0 p1 f0 f1 hg
        go_loopw [8, 42] (fun ah i wr => ∃ (j : Nat) (ahd : Int) (prev : Option Nat) (f : Nat → Bool) (ws : List Nat), ah = .int .i64 ahd ∧ i = .int .i64 j ∧ PRel w w1 wr s n g w2.heap.size l j ahd prev f ws) (fun _ i _ => l.length - (intOf i).toNat)
        case atStart =>
          refine ⟨0, -2, none, fun _ => false, List.replicate (nw n) 0, rfl, rfl, ⟨by omega, ?_, rfl, (fun p h => by cases h), fun _ => rfl, Ws.empty n, hwb.alloc _, ha_new _ _ _ rfl, hb2.size, hg1, by have := hwb.lt; omega, bl_a hb2 _⟩⟩
          unfold pspec
          rw [if_neg h0]
          have hsc : scan s 0 0 false = (⟨0, e, 0⟩ :: l, none) := by rw [← hl, ← hok]
          rw [hsc]
          simp only [Nat.sub_zero, List.drop_zero]
          rw [← HN.out, if_neg (by omega)]
        case round =>
          obtain ⟨j, ahd, prev, f, ws, rfl, rfl, hR⟩ := hrel
          clear hwb hb02
          have hjl := hR.hj
          obtain ⟨p0, p1, f0, f1, hgs⟩ := blk2 hR.bs
          by_cases hlt : j < l.length
          · have hA2 : A1 = some ⟨gA, 3, none⟩ := by rw [hA1 (by simp; omega), hz1]; rfl
            subst hA2
            obtain ⟨t, ht⟩ : ∃ t, t = l[j] := ⟨_, rfl⟩
            have hg3 := tcells_get s (⟨0, e, 0⟩ :: l) (j + 1) (by simp; omega)
            simp only [List.getElem_cons_succ, ← ht] at hg3
            have hst := pgo_step (n := n) (prev := prev) (V := cv s) (l := l) (j := j) (f := f) hlt
            rw [← hR.an, ← ht] at hst
            obtain ⟨v, hv⟩ : ∃ v, v = cv s t.a (t.e - t.a) := ⟨_, rfl⟩
            rw [← hv] at hg3 hst
            have hvl : v ≤ 1048576 := by rw [hv]; exact cv_le _ _ _
            have hgw : gA < wr.heap.size := Nat.lt_of_lt_of_le hgA1 hR.b1.size
            have c0 : wr.cell? ⟨gA, 3 + j * 3, none⟩ = some (.int .i64 v) := (hR.b1.cell (p := ⟨gA, 3 + j * 3, none⟩) hgA1).trans (((HCL.out (3 + j * 3) (by omega)).trans (by rw [show 3 + j * 3 = (j + 1) * 3 from by omega]; exact hg3.1)))
            have c1 : wr.cell? ⟨gA, 3 + j * 3 + 1, none⟩ = some (.int .i64 t.a) := (hR.b1.cell (p := ⟨gA, 3 + j * 3 + 1, none⟩) hgA1).trans (((HCL.out (3 + j * 3 + 1) (by omega)).trans (by rw [show 3 + j * 3 + 1 = (j + 1) * 3 + 1 from by omega]; exact hg3.2.1)))
            have c2 : wr.cell? ⟨gA, 3 + j * 3 + 2, none⟩ = some (.bool (t.t == 2)) := (hR.b1.cell (p := ⟨gA, 3 + j * 3 + 2, none⟩) hgA1).trans (((HCL.out (3 + j * 3 + 2) (by omega)).trans (by rw [show 3 + j * 3 + 2 = (j + 1) * 3 + 2 from by omega]; exact hg3.2.2)))
            have HST := Lib.hid hst
            have HV := Lib.hid hv
            have hah1 : -2 ≤ ahd ∧ ahd ≤ 4096 := by
              have h1 := hR.ah
              have h2 := hR.pn
              cases prev with
              | none => simp only at h1; omega
              | some p => simp only at h1; have := h2 p rfl; omega
            obtain ⟨hah1, hah2⟩ := hah1
            have hfirst : prev = none → (t.t == 2) = false := fun hp => by
              have h1 := hR.p0 hp
              subst h1
              have h2 := chained_first hch h58 hlt
              rw [ht, h2]
              rfl
            have HTT := Lib.hid ht
            clear hst hv hg3 hA1 hcut1 ht
            cases hls : (t.t == 2) with
            | false =>
              rw [hls] at c2
              have HLS := Lib.hid hls
              have HAH := Lib.hid hR.ah
              clear hls hfirst
              go_wp2_with fail
              refine (within_any n v _ _).mono ?_
              rintro x w3 ⟨rfl, hb3⟩
              have hR3 := PRel.below hR (bl_t (bl_a (Below.refl _ _) _) hb3)
              have hbn : w3.heap[wr.heap.size]? = some (.cells #[.int .i64 v, .int .i64 t.a, .bool false] 63 (0, 0)) := (hb3.block _ (by simp)).trans (ha_new _ _ _ rfl)
              obtain ⟨s0, s1, t0, t1, hgs3⟩ := blk2 hR3.bs
              obtain ⟨n0, n1, n2, m0, m1, m2, hgn⟩ := blk3 hbn
              have hb03 := (hR3.b1.block _ (blk_lt HB0.out)).trans HB0.out
              obtain ⟨b0, b1, d0, d1, hgb⟩ := blk2 hb03
              have hwlt : w.heap.size < w1.heap.size := blk_lt HB0.out
              clear p0 p1 f0 f1 hgs c0 c1 c2
              have hnn : w.heap.size ≠ wr.heap.size := by have := hR.b1.size; omega
              have hblw : Below w.heap.size w w3 := bl_t (bl_t (bl_a (Below.refl _ _) _) hb) hR3.b1
              by_cases hvn : v < n
              · have hin : inB v n = true := by unfold inB; simp; omega
                by_cases hlo : (v : Int) < ahd + 2
                · have HP : Hid (pspec s (cv s) = .err t.a 1) := by
                    unfold Hid
                    rw [HST.out, if_neg (by omega), if_pos]
                    rw [HLS.out]
                    have h1 := HAH.out
                    cases prev with
                    | none => simp only at h1; omega
                    | some p => simp only at h1; simp [low]; omega
                  go_wp2
                  go_region
                  go_wp2
                  refine bodyPost_ret (res_ctt rfl _ _ (w.heap.size) 24 #[.int .i64 0, .slice none 0 0] (0, 0) _ rfl (hs_same (hs_same hb03 0 _) 1 _) Try.underlying24 rfl (by kernel_rfl)) rfl ?_
                  rw [HP.out]
                  exact ⟨bl_d (bl_s (bl_s hblw (Nat.le_refl _) _) (Nat.le_refl _) _), rfl⟩
                · have HLO := Lib.hid hlo
                  obtain ⟨wo, rfl⟩ : ∃ wo : World, wo = wr := ⟨_, rfl⟩
                  go_wp2
                  go_loopw [13] (fun ev wi => ∃ (k : Nat) (ws' : List Nat), ev = .int .i64 k ∧ IRel w1 wi n g w2.heap.size wo.heap.size #[.int .i64 v, .int .i64 t.a, .bool false] f v k v ws') (fun ev _ => v + 1 - (intOf ev).toNat)
                  case atStart =>
                    refine ⟨v, ws, rfl, ⟨Nat.le_refl _, by omega, hR3.set.congr (fun e _ => ?_), hR3.row, hR3.bs, hbn, hR3.b1⟩⟩
                    have : ¬ (v ≤ e ∧ e < v) := by omega
                    simp [this]
                  case round =>
                    obtain ⟨k, ws', rfl, hI⟩ := hrel
                    clear s0 s1 t0 t1 hgs3 n0 n1 n2 m0 m1 m2 hgn b0 b1 d0 d1 hgb
                    obtain ⟨s0, s1, t0, t1, hgs3⟩ := blk2 hI.bs
                    obtain ⟨n0, n1, n2, m0, m1, m2, hgn⟩ := blk3 hI.bn
                    have hkv := hI.kv
                    have hak := hI.ak
                    by_cases hk : k ≤ v
                    · go_wp2_with fail
                      have hput := put_any n g (nw n) k ws' wr hI.row (by rw [hI.set.len, nw_eq]; omega) (by rw [hI.set.len, nw_eq]; omega) hI.set.lt
                      rw [hI.set.len] at hput
                      refine hput.mono ?_
                      rintro x w4 ⟨rfl, hw4, hg4⟩
                      clear s0 s1 t0 t1 hgs3 n0 n1 n2 m0 m1 m2 hgn hput
                      go_wp2
                      go_roundw
                      case rel =>
                        refine ⟨k + 1, setb ws' k, by go_num, ⟨by omega, by omega, (hI.set.put (by omega)).congr (fun e _ => ?_), hw4, blk_grown hI.bs hg4 (by intro h; injection h with h; exact hR.ne h), blk_grown hI.bn hg4 (by intro h; injection h with h; have := hR.row.lt; omega), bl_g hI.b1 hg4 hR.hg⟩⟩
                        have hiff : (decide (v ≤ e ∧ e < k) || decide (e = k)) = decide (v ≤ e ∧ e < k + 1) := by
                          rw [Bool.eq_iff_iff]; simp; omega
                        rw [Bool.or_assoc, hiff]
                      case measure => simp [intOf]; omega
                    · go_wp2
                      go_roundw
                      case rel =>
                        refine ⟨j + 1, v, some v, more prev v false f, ws', rfl, by go_num, ⟨by omega, ?_, rfl, (fun p h => by injection h with h; omega), (fun h => by cases h), hI.set.congr (fun e _ => ?_), hI.row, hI.bs, hR.hgs, hR.hg, hR.ne, hI.b1⟩⟩
                        · rw [HST.out, if_neg (by omega), if_neg, HLS.out]
                          rw [HLS.out]
                          have h1 := HAH.out
                          have h2 := HLO.out
                          cases prev with
                          | none => simp [low]
                          | some p => simp only at h1; simp [low]; omega
                        · unfold more
                          congr 1
                          rw [Bool.eq_iff_iff]
                          simp
                          omega
                      case measure => simp [intOf]; omega
              · have hin : inB v n = false := by unfold inB; simp; omega
                have HP : Hid (pspec s (cv s) = .err t.a 62) := by
                  unfold Hid
                  rw [HST.out, if_pos hvn]
                go_wp2
                go_region
                go_wp2
                refine bodyPost_ret (res_ctt rfl _ _ (w.heap.size) 24 #[.int .i64 0, .slice none 0 0] (0, 0) _ rfl (hs_same (hs_same hb03 0 _) 1 _) Try.underlying24 rfl (by kernel_rfl)) rfl ?_
                rw [HP.out]
                exact ⟨bl_d (bl_s (bl_s hblw (Nat.le_refl _) _) (Nat.le_refl _) _), rfl⟩
            | true =>
              rw [hls] at c2
              have HLS := Lib.hid hls
              obtain ⟨q, hq⟩ : ∃ q, prev = some q := by
                cases hp : prev with
                | none => have := hfirst hp; rw [hls] at this; cases this
                | some q => exact ⟨q, rfl⟩
              subst hq
              have hah : ahd = (q : Int) := hR.ah
              subst hah
              clear hls hfirst
              go_wp2_with fail
              refine (within_any n v _ _).mono ?_
              rintro x w3 ⟨rfl, hb3⟩
              have hR3 := PRel.below hR (bl_t (bl_a (Below.refl _ _) _) hb3)
              have hbn : w3.heap[wr.heap.size]? = some (.cells #[.int .i64 v, .int .i64 t.a, .bool true] 63 (0, 0)) := (hb3.block _ (by simp)).trans (ha_new _ _ _ rfl)
              obtain ⟨s0, s1, t0, t1, hgs3⟩ := blk2 hR3.bs
              obtain ⟨n0, n1, n2, m0, m1, m2, hgn⟩ := blk3 hbn
              have hb03 := (hR3.b1.block _ (blk_lt HB0.out)).trans HB0.out
              obtain ⟨b0, b1, d0, d1, hgb⟩ := blk2 hb03
              have hwlt : w.heap.size < w1.heap.size := blk_lt HB0.out
              clear p0 p1 f0 f1 hgs c0 c1 c2
              have hnn : w.heap.size ≠ wr.heap.size := by have := hR.b1.size; omega
              have hblw : Below w.heap.size w w3 := bl_t (bl_t (bl_a (Below.refl _ _) _) hb) hR3.b1
              by_cases hvn : v < n
              · have hin : inB v n = true := by unfold inB; simp; omega
                by_cases hlo : v ≤ q
                · have HP : Hid (pspec s (cv s) = .err t.a 1) := by
                    unfold Hid
                    rw [HST.out, if_neg (by omega), if_pos]
                    simpa [low, HLS.out] using hlo
                  go_wp2
                  go_region
                  go_wp2
                  refine bodyPost_ret (res_ctt rfl _ _ (w.heap.size) 24 #[.int .i64 0, .slice none 0 0] (0, 0) _ rfl (hs_same (hs_same hb03 0 _) 1 _) Try.underlying24 rfl (by kernel_rfl)) rfl ?_
                  rw [HP.out]
                  exact ⟨bl_d (bl_s (bl_s hblw (Nat.le_refl _) _) (Nat.le_refl _) _), rfl⟩
                · have HLO := Lib.hid hlo
                  obtain ⟨wo, rfl⟩ : ∃ wo : World, wo = wr := ⟨_, rfl⟩
                  go_wp2
                  go_loopw [13] (fun ev wi => ∃ (k : Nat) (ws' : List Nat), ev = .int .i64 k ∧ IRel w1 wi n g w2.heap.size wo.heap.size #[.int .i64 v, .int .i64 t.a, .bool true] f q k v ws') (fun ev _ => v + 1 - (intOf ev).toNat)
                  case atStart =>
                    refine ⟨q, ws, rfl, ⟨Nat.le_refl _, by have := HLO.out; omega, hR3.set.congr (fun e _ => ?_), hR3.row, hR3.bs, hbn, hR3.b1⟩⟩
                    have : ¬ (q ≤ e ∧ e < q) := by omega
                    simp [this]
                  case round =>
                    obtain ⟨k, ws', rfl, hI⟩ := hrel
                    clear s0 s1 t0 t1 hgs3 n0 n1 n2 m0 m1 m2 hgn b0 b1 d0 d1 hgb
                    obtain ⟨s0, s1, t0, t1, hgs3⟩ := blk2 hI.bs
                    obtain ⟨n0, n1, n2, m0, m1, m2, hgn⟩ := blk3 hI.bn
                    have hkv := hI.kv
                    have hak := hI.ak
                    by_cases hk : k ≤ v
                    · go_wp2_with fail
                      have hput := put_any n g (nw n) k ws' wr hI.row (by rw [hI.set.len, nw_eq]; omega) (by rw [hI.set.len, nw_eq]; omega) hI.set.lt
                      rw [hI.set.len] at hput
                      refine hput.mono ?_
                      rintro x w4 ⟨rfl, hw4, hg4⟩
                      clear s0 s1 t0 t1 hgs3 n0 n1 n2 m0 m1 m2 hgn hput
                      go_wp2
                      go_roundw
                      case rel =>
                        refine ⟨k + 1, setb ws' k, by go_num, ⟨by omega, by omega, (hI.set.put (by omega)).congr (fun e _ => ?_), hw4, blk_grown hI.bs hg4 (by intro h; injection h with h; exact hR.ne h), blk_grown hI.bn hg4 (by intro h; injection h with h; have := hR.row.lt; omega), bl_g hI.b1 hg4 hR.hg⟩⟩
                        have hiff : (decide (q ≤ e ∧ e < k) || decide (e = k)) = decide (q ≤ e ∧ e < k + 1) := by
                          rw [Bool.eq_iff_iff]; simp; omega
                        rw [Bool.or_assoc, hiff]
                      case measure => simp [intOf]; omega
                    · go_wp2
                      go_roundw
                      case rel =>
                        refine ⟨j + 1, v, some v, more (some q) v true f, ws', rfl, by go_num, ⟨by omega, ?_, rfl, (fun p h => by injection h with h; omega), (fun h => by cases h), hI.set.congr (fun e _ => ?_), hI.row, hI.bs, hR.hgs, hR.hg, hR.ne, hI.b1⟩⟩
                        · rw [HST.out, if_neg (by omega), if_neg, HLS.out]
                          rw [HLS.out]; simpa [low] using HLO.out
                        · unfold more
                          congr 1
                          rw [Bool.eq_iff_iff]
                          simp
                          omega
                      case measure => simp [intOf]; omega
              · have hin : inB v n = false := by unfold inB; simp; omega
                have HP : Hid (pspec s (cv s) = .err t.a 62) := by
                  unfold Hid
                  rw [HST.out, if_pos hvn]
                go_wp2
                go_region
                go_wp2
                refine bodyPost_ret (res_ctt rfl _ _ (w.heap.size) 24 #[.int .i64 0, .slice none 0 0] (0, 0) _ rfl (hs_same (hs_same hb03 0 _) 1 _) Try.underlying24 rfl (by kernel_rfl)) rfl ?_
                rw [HP.out]
                exact ⟨bl_d (bl_s (bl_s hblw (Nat.le_refl _) _) (Nat.le_refl _) _), rfl⟩
          · have HP : Hid (pspec s (cv s) = .set n f) := by
              unfold Hid
              rw [hR.an, pgo_end (by omega)]
            have hb03 := (hR.b1.block _ (blk_lt HB0.out)).trans HB0.out
            obtain ⟨b0, b1, d0, d1, hgb⟩ := blk2 hb03
            have hwlt : w.heap.size < w1.heap.size := blk_lt HB0.out
            have hnn : w.heap.size ≠ w2.heap.size := by have := hR.hgs; omega
            have hblw : Below w.heap.size w wr := bl_t (bl_t (bl_a (Below.refl _ _) _) hb) hR.b1
            have hws := hR.set.len
            have hrow := hR.row
            have hset := hR.set
            have hgn : w.heap.size ≠ g := by have := hR.hg; omega
            go_wp2
            refine bodyPost_ret (res_ctt rfl _ _ (w.heap.size) 24 #[.int .i64 n, .slice (some ⟨g, 0, none⟩) (nw n) (nw n)] (0, 0) _ rfl (hs_same (hs_same hb03 0 _) 1 _) Try.underlying24 rfl (by kernel_rfl)) rfl ?_
            rw [HP.out]
            refine ⟨bl_s (bl_s hblw (Nat.le_refl _) _) (Nat.le_refl _) _, g, ws, by rw [hws]; rfl, ?_, hset⟩
            exact (hrow.other (by simp; omega) _).other (by simp; omega) _
      · have HP : Hid (pspec s (cv s) = .err 0 60) := by
          unfold Hid pspec
          rw [if_neg h0]
          have hsc : scan s 0 0 false = (⟨0, e, 0⟩ :: l, none) := by rw [← hl, ← hok]
          rw [hsc]
          simp only [Nat.sub_zero]
          rw [← HN.out, if_pos (by omega)]
        have hns : szB n = false := by unfold szB; simp; omega
        go_wp2_with (go_at_call 33; refine (sized_any n _).mono ?_; rintro e' w' ⟨rfl, rfl⟩)
        refine bodyPost_ret (res_ctt rfl _ _ (w.heap.size) 24 #[.int .i64 0, .slice none 0 0] (0, 0) _ rfl (hs_same (hs_same hb0 0 _) 1 _) Try.underlying24 rfl (by kernel_rfl)) rfl ?_
        rw [HP.out]
        exact ⟨bl_s (bl_s (bl_t (bl_a (Below.refl _ _) _) hb) (Nat.le_refl _) _) (Nat.le_refl _) _, rfl⟩
end Go.Proofs.Ytlmjfcieiengcaa
