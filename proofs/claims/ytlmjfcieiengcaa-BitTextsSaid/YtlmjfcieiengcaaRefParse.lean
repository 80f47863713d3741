/- sloperef3.Parse answers what pspec says with the numbers as the document's answer cuts them. No condition. -/
import Derived.Test.YtlmjfcieiengcaaForm
import Derived.Test.YtlmjfcieiengcaaParse
namespace Go.Proofs.Ytlmjfcieiengcaa
open Go.RowKit
theorem fcells_get (s : ByteArray) (l : List Tok) (j : Nat) (hj : j < l.length) : (fcells s l)[j * 3]? = some (.int .i64 (rv s l[j].a (l[j].e - l[j].a))) ∧ (fcells s l)[j * 3 + 1]? = some (.int .i64 l[j].a) ∧ (fcells s l)[j * 3 + 2]? = some (.int .u8 (behind s l[j].e)) := by
  induction l generalizing j with
  | nil => simp at hj
  | cons x l ih =>
    cases j with
    | zero => exact ⟨rfl, rfl, rfl⟩
    | succ j =>
      have h := ih j (by simpa using hj)
      have e : fcells s (x :: l) = fcell s x ++ fcells s l := rfl
      have e0 : (j + 1) * 3 = 3 + j * 3 := by omega
      simp only [List.getElem_cons_succ]
      refine ⟨?_, ?_, ?_⟩
      · rw [e, List.getElem?_append_right (by simp [fcell]; omega)]; simpa [fcell, e0] using h.1
      · rw [e, List.getElem?_append_right (by simp [fcell]; omega)]
        have : (j + 1) * 3 + 1 - (fcell s x).length = j * 3 + 1 := by simp [fcell]; omega
        rw [this]; exact h.2.1
      · rw [e, List.getElem?_append_right (by simp [fcell]; omega)]
        have : (j + 1) * 3 + 2 - (fcell s x).length = j * 3 + 2 := by simp [fcell]; omega
        rw [this]; exact h.2.2
theorem chained_at {s : ByteArray} : ∀ (l : List Tok) (x : Tok), Chained s x.e l → ∀ m, 1 ≤ m → (h : m < (x :: l).length) → ((x :: l)[m - 1]'(by omega)).e < s.size ∧ (x :: l)[m].t = nxt (by_ s ((x :: l)[m - 1]'(by omega)).e) := by
  intro l
  induction l with
  | nil => intro x _ m h1 h; simp at h; omega
  | cons y l ih =>
    intro x hc m h1 h
    obtain ⟨a, b, c⟩ := hc
    match m, h1 with
    | 1, _ => exact ⟨a, b⟩
    | m + 2, _ =>
      have := ih y c (m + 1) (by omega) (by simpa using h)
      simpa using this
theorem lt_new (w : World) (o : Obj) : w.heap.size < (w.alloc o).heap.size := by simp
theorem lt_old {w : World} {n : Nat} (o : Obj) (h : n < w.heap.size) : n < (w.alloc o).heap.size := by simp; omega
structure QRel (w1 wr : World) (s : ByteArray) (n g : Nat) (L : List Tok) (m : Nat) (prev : Option Nat) (f : Nat → Bool) (bs : List Bool) : Prop where
  m1 : 1 ≤ m
  hm : m ≤ L.length
  an : pspec s (rv s) = pgo n prev (vals (rv s) (L.drop m)) f
  p0 : prev = none → m = 1
  ps : ∀ p, prev = some p → 1 < m ∧ ∃ h : m - 1 < L.length, p = rv s L[m - 1].a (L[m - 1].e - L[m - 1].a)
  len : bs.length = n
  set : ∀ e, e < n → bd bs e = f e
  row : BB wr g bs
  b1 : Below w1.heap.size w1 wr
structure JRel (w1 wi : World) (n g gx : Nat) (xb : Array Value) (f : Nat → Bool) (a k v : Nat) (bs : List Bool) : Prop where
  ak : a ≤ k
  kv : k ≤ v
  len : bs.length = n
  set : ∀ e, e < n → bd bs e = (f e || decide (a ≤ e ∧ e < k))
  row : BB wi g bs
  bx : wi.heap[gx]? = some (.cells xb 72 (0, 0))
  b1 : Below w1.heap.size w1 wi
set_option maxHeartbeats 10000000 in
set_option maxRecDepth 100000 in
theorem rparse_any (s : ByteArray) (w : World) (hs : s.size ≤ 9223372036854775807) : Calls Try.prog 8 #[.string s] w (AnsPost (pspec s (rv s)) w) := by
  by_cases h0 : 65536 < s.size
  · have HP : Hid (pspec s (rv s) = .err 65536 4) := by unfold Hid pspec; rw [if_pos h0]
    go_enter Try.func8, Try.ntmps8
    go_wp2_with fail
    refine (none_any _).mono ?_
    rintro x w1 ⟨rfl, hb⟩
    have hb0 := (hb.block w.heap.size (by simp)).trans (ha_new w _ _ rfl)
    obtain ⟨p0, p1, f0, f1, hg⟩ := blk2 hb0
    go_wp2
    refine bodyPost_ret (res_ctt rfl _ _ (w.heap.size) 24 #[.int .i64 0, .slice none 0 0] (0, 0) _ rfl (hs_same (hs_same hb0 0 _) 1 _) Try.underlying24 rfl (by kernel_rfl)) rfl ?_
    rw [HP.out]
    exact ⟨bl_s (bl_s (bl_t (bl_a (Below.refl _ _) _) hb) (Nat.le_refl _) _) (Nat.le_refl _) _, rfl⟩
  · have h0' : s.size ≤ 65536 := by omega
    go_enter Try.func8, Try.ntmps8
    go_wp2_with fail
    refine (form_any s _ h0').mono ?_
    rintro x w1 ⟨hb, ⟨p, hp, hps, v, rfl⟩ | ⟨hok, A, c, rfl, hown⟩⟩
    · have hb0 := (hb.block w.heap.size (by simp)).trans (ha_new w _ _ rfl)
      have HP : Hid (pspec s (rv s) = .err p 5) := by
        unfold Hid pspec
        rw [if_neg h0]
        split
        · rename_i h; rw [h] at hp; injection hp with hp; rw [hp]
        · rename_i h; rw [h] at hp; simp at hp
        · rename_i h; rw [h] at hp; simp at hp
      clear hp
      go_wp2_with fail
      refine (none_any _).mono ?_
      rintro x w2 ⟨rfl, hb2⟩
      have hb02 := (hb2.block w.heap.size (blk_lt hb0)).trans hb0
      obtain ⟨p0, p1, f0, f1, hg⟩ := blk2 hb02
      go_wp2
      refine bodyPost_ret (res_ctt rfl _ _ (w.heap.size) 24 #[.int .i64 0, .slice none 0 0] (0, 0) _ rfl (hs_same (hs_same hb02 0 _) 1 _) Try.underlying24 rfl (by kernel_rfl)) rfl ?_
      rw [HP.out]
      exact ⟨bl_s (bl_s (bl_t (bl_t (bl_a (Below.refl _ _) _) hb) hb2) (Nat.le_refl _) _) (Nat.le_refl _) _, rfl⟩
    · obtain ⟨e, l, hl, hch, he, h58⟩ := scan_head hok
      rw [hl] at hown ⊢
      obtain ⟨L, hL⟩ : ∃ L, L = (⟨0, e, 0⟩ :: l : List Tok) := ⟨_, rfl⟩
      have hchL : ∀ m, 1 ≤ m → (h : m < L.length) → (L[m - 1]'(by omega)).e < s.size ∧ L[m].t = nxt (by_ s (L[m - 1]'(by omega)).e) := by
        subst hL
        exact chained_at l ⟨0, e, 0⟩ hch
      have HCH := Lib.hid hchL
      have hlp : 0 < L.length := by rw [hL]; simp
      rw [← hL] at hown ⊢
      obtain ⟨gA, rfl, hgA0, hgA1, _, hcl, hfr⟩ := own_at hown hlp
      have hlmax : L.length ≤ 9223372036854775807 := by
        rcases hown.2 with ⟨_, h⟩ | ⟨_, cap, _, _, _, _, h1, h2, _⟩
        · omega
        · simp only [maxLen] at h2; omega
      obtain ⟨n, hn⟩ : ∃ n, n = rv s 0 e := ⟨_, rfl⟩
      have hc0 := (hcl 0 (by omega)).trans (fcells_get s L 0 (by omega)).1
      have hL0 : L[0].a = 0 ∧ L[0].e = e := by subst hL; exact ⟨rfl, rfl⟩
      rw [hL0.1, hL0.2, Nat.sub_zero, ← hn] at hc0
      have HN := Lib.hid hn
      have hnl : n ≤ 1000207 := by rw [hn]; exact rv_le _ _ _
      have HCL := Lib.hid hcl
      have HL := Lib.hid hL
      have HFE := Lib.hid (show by_ s e = 58 from h58)
      have hfst : ∀ h : 0 < L.length, by_ s L[0].e = 58 := fun _ => by rw [hL0.2]; exact h58
      have HFS := Lib.hid hfst
      clear hn hcl hfr hchL hL hL0 hfst h58
      have hb0 := (hb.block w.heap.size (by simp)).trans (ha_new w _ _ rfl)
      by_cases hn4 : n ≤ 4096
      · have hns : szB n = true := by unfold szB; simp; omega
        have hmk := mk_bools n (by omega)
        go_wp2_with (go_at_call 39; refine (rsized_any n _).mono ?_; rintro e' w' ⟨rfl, rfl⟩)
        have HMK := Lib.hid hmk
        clear hmk
        have HB0 := Lib.hid hb0
        clear hb0
        go_loopw [9] (fun i wr => ∃ (m : Nat) (prev : Option Nat) (f : Nat → Bool) (bs : List Bool), i = .int .i64 m ∧ QRel w1 wr s n w1.heap.size L m prev f bs) (fun i _ => L.length - (intOf i).toNat)
        case atStart =>
          refine ⟨1, none, fun _ => false, List.replicate n false, rfl, ⟨Nat.le_refl _, by omega, ?_, fun _ => rfl, (fun p h => by cases h), by simp, fun e _ => bd_replicate _ _, BB.made _ _, bl_a (Below.refl _ _) _⟩⟩
          unfold pspec
          rw [if_neg h0]
          have hsc : scan s 0 0 false = (⟨0, e, 0⟩ :: l, none) := by rw [← hl, ← hok]
          rw [hsc]
          simp only [Nat.sub_zero]
          rw [← HN.out, if_neg (by omega), HL.out, List.drop_one, List.tail_cons]
        case round =>
          obtain ⟨m, prev, f, bs, rfl, hR⟩ := hrel
          have hm := hR.hm
          have hm1 := hR.m1
          by_cases hlt : m < L.length
          · obtain ⟨t, ht⟩ : ∃ t, t = L[m] := ⟨_, rfl⟩
            obtain ⟨q, hq⟩ : ∃ q, q = L[m - 1]'(by omega) := ⟨_, rfl⟩
            have hg3 := fcells_get s L m hlt
            have hg4 := fcells_get s L (m - 1) (by omega)
            rw [← ht] at hg3
            rw [← hq] at hg4
            have hst := pgo_step (n := n) (prev := prev) (V := rv s) (l := L) (j := m) (f := f) hlt
            rw [← hR.an, ← ht] at hst
            obtain ⟨v, hv⟩ : ∃ v, v = rv s t.a (t.e - t.a) := ⟨_, rfl⟩
            obtain ⟨u, hu⟩ : ∃ u, u = rv s q.a (q.e - q.a) := ⟨_, rfl⟩
            rw [← hv] at hg3 hst
            rw [← hu] at hg4
            have hvl : v ≤ 1000207 := by rw [hv]; exact rv_le _ _ _
            have hul : u ≤ 1000207 := by rw [hu]; exact rv_le _ _ _
            have hgw : gA < wr.heap.size := Nat.lt_of_lt_of_le hgA1 hR.b1.size
            have c0 : wr.cell? ⟨gA, m * 3, none⟩ = some (.int .i64 v) := (hR.b1.cell (p := ⟨gA, m * 3, none⟩) hgA1).trans ((HCL.out (m * 3) (by omega)).trans hg3.1)
            have c1 : wr.cell? ⟨gA, m * 3 + 1, none⟩ = some (.int .i64 t.a) := (hR.b1.cell (p := ⟨gA, m * 3 + 1, none⟩) hgA1).trans ((HCL.out (m * 3 + 1) (by omega)).trans hg3.2.1)
            have c2 : wr.cell? ⟨gA, m * 3 + 2, none⟩ = some (.int .u8 (behind s t.e)) := (hR.b1.cell (p := ⟨gA, m * 3 + 2, none⟩) hgA1).trans ((HCL.out (m * 3 + 2) (by omega)).trans hg3.2.2)
            have d0 : wr.cell? ⟨gA, (m - 1) * 3, none⟩ = some (.int .i64 u) := (hR.b1.cell (p := ⟨gA, (m - 1) * 3, none⟩) hgA1).trans ((HCL.out ((m - 1) * 3) (by omega)).trans hg4.1)
            have d2 : wr.cell? ⟨gA, (m - 1) * 3 + 2, none⟩ = some (.int .u8 (behind s q.e)) := (hR.b1.cell (p := ⟨gA, (m - 1) * 3 + 2, none⟩) hgA1).trans ((HCL.out ((m - 1) * 3 + 2) (by omega)).trans hg4.2.2)
            obtain ⟨hqe, htt⟩ := HCH.out m hm1 hlt
            rw [← ht] at htt
            rw [← hq] at hqe htt
            have hbq : behind s q.e = by_ s q.e := by unfold behind; rw [if_pos hqe]
            rw [hbq] at d2
            obtain ⟨C, hC⟩ : ∃ C, C = by_ s q.e := ⟨_, rfl⟩
            rw [← hC] at d2 htt
            obtain ⟨D, hD⟩ : ∃ D, D = behind s t.e := ⟨_, rfl⟩
            rw [← hD] at c2
            have hps : ∀ p, prev = some p → 1 < m ∧ p = u := by
              intro p hp
              obtain ⟨h1, h2, h3⟩ := hR.ps p hp
              exact ⟨h1, by rw [h3, hu, hq]⟩
            have hlast : (t.t == 2) = ((C : Int) == 45) := by
              rw [htt, Bool.eq_iff_iff]
              unfold nxt
              by_cases h : C = 45
              · subst h; simp
              · rw [if_neg h]; simp; omega
            have HFST : Hid (m = 1 → C = 58) := fun h => by
              subst h
              rw [hC, hq]
              exact HFS.out (by omega)
            have HTT := Lib.hid ht
            have HQ := Lib.hid hq
            have HST := Lib.hid hst
            have HV := Lib.hid hv
            have HU := Lib.hid hu
            have HPS := Lib.hid hps
            have HLAST := Lib.hid hlast
            clear hst hv hg3 hg4 ht hq hu hqe htt hbq hC hD hps hlast
            have hb03 := (hR.b1.block _ (blk_lt HB0.out)).trans HB0.out
            have hwlt : w.heap.size < w1.heap.size := blk_lt HB0.out
            have hblw : Below w.heap.size w wr := bl_t (bl_t (bl_a (Below.refl _ _) _) hb) hR.b1
            have hnn : w.heap.size ≠ wr.heap.size := by have := hR.b1.size; omega
            have hbx : (wr.alloc (.cells #[.int .i64 v, .int .i64 t.a, .int .u8 D] 72)).heap[wr.heap.size]? = some (.cells #[.int .i64 v, .int .i64 t.a, .int .u8 D] 72 (0, 0)) := ha_new _ _ _ rfl
            obtain ⟨n0, n1, n2, m0, m1, m2, hgx⟩ := blk3 hbx
            clear m0 m1 m2
            have hbx : (wr.alloc (.cells #[.int .i64 v, .int .i64 t.a, .int .u8 D] 72)).heap[wr.heap.size]? = some (.cells #[.int .i64 v, .int .i64 t.a, .int .u8 D] 72 (0, 0)) := ha_new _ _ _ rfl
            obtain ⟨n0, n1, n2, m0, m1, m2, hgx⟩ := blk3 hbx
            clear m0 m1 m2
            have hbx : (wr.alloc (.cells #[.int .i64 v, .int .i64 t.a, .int .u8 D] 72)).heap[wr.heap.size]? = some (.cells #[.int .i64 v, .int .i64 t.a, .int .u8 D] 72 (0, 0)) := ha_new _ _ _ rfl
            obtain ⟨n0, n1, n2, m0, m1, m2, hgx⟩ := blk3 hbx
            clear m0 m1 m2
            have hbx : (wr.alloc (.cells #[.int .i64 v, .int .i64 t.a, .int .u8 D] 72)).heap[wr.heap.size]? = some (.cells #[.int .i64 v, .int .i64 t.a, .int .u8 D] 72 (0, 0)) := ha_new _ _ _ rfl
            obtain ⟨n0, n1, n2, m0, m1, m2, hgx⟩ := blk3 hbx
            clear m0 m1 m2
            have hbx : (wr.alloc (.cells #[.int .i64 v, .int .i64 t.a, .int .u8 D] 72)).heap[wr.heap.size]? = some (.cells #[.int .i64 v, .int .i64 t.a, .int .u8 D] 72 (0, 0)) := ha_new _ _ _ rfl
            obtain ⟨n0, n1, n2, m0, m1, m2, hgx⟩ := blk3 hbx
            clear m0 m1 m2
            have hlt00 : w.heap.size < wr.heap.size := Nat.lt_of_lt_of_le hwlt hR.b1.size
            have hlt0 := lt_old (.cells #[.int .i64 v, .int .i64 t.a, .int .u8 D] 72) hlt00
            have hb04 := (ha_old wr (.cells #[.int .i64 v, .int .i64 t.a, .int .u8 D] 72) _ hlt00).trans hb03
            have hbx : (wr.alloc (.cells #[.int .i64 v, .int .i64 t.a, .int .u8 D] 72)).heap[wr.heap.size]? = some (.cells #[.int .i64 v, .int .i64 t.a, .int .u8 D] 72 (0, 0)) := ha_new _ _ _ rfl
            obtain ⟨n0, n1, n2, m0, m1, m2, hgx⟩ := blk3 hbx
            clear m0 m1 m2
            have hlt00 : w.heap.size < wr.heap.size := Nat.lt_of_lt_of_le hwlt hR.b1.size
            have hlt0 := lt_old (.cells #[.int .i64 v, .int .i64 t.a, .int .u8 D] 72) hlt00
            have hb04 := (ha_old wr (.cells #[.int .i64 v, .int .i64 t.a, .int .u8 D] 72) _ hlt00).trans hb03
            have hbx : (wr.alloc (.cells #[.int .i64 v, .int .i64 t.a, .int .u8 D] 72)).heap[wr.heap.size]? = some (.cells #[.int .i64 v, .int .i64 t.a, .int .u8 D] 72 (0, 0)) := ha_new _ _ _ rfl
            obtain ⟨n0, n1, n2, m0, m1, m2, hgx⟩ := blk3 hbx
            clear m0 m1 m2
            have hlt00 : w.heap.size < wr.heap.size := Nat.lt_of_lt_of_le hwlt hR.b1.size
            have hlt0 := lt_old (.cells #[.int .i64 v, .int .i64 t.a, .int .u8 D] 72) hlt00
            have hb04 := (ha_old wr (.cells #[.int .i64 v, .int .i64 t.a, .int .u8 D] 72) _ hlt00).trans hb03
            have hbx : (wr.alloc (.cells #[.int .i64 v, .int .i64 t.a, .int .u8 D] 72)).heap[wr.heap.size]? = some (.cells #[.int .i64 v, .int .i64 t.a, .int .u8 D] 72 (0, 0)) := ha_new _ _ _ rfl
            obtain ⟨n0, n1, n2, m0, m1, m2, hgx⟩ := blk3 hbx
            clear m0 m1 m2
            have hlt00 : w.heap.size < wr.heap.size := Nat.lt_of_lt_of_le hwlt hR.b1.size
            have hlt0 := lt_old (.cells #[.int .i64 v, .int .i64 t.a, .int .u8 D] 72) hlt00
            have hb04 := (ha_old wr (.cells #[.int .i64 v, .int .i64 t.a, .int .u8 D] 72) _ hlt00).trans hb03
            have hbx : (wr.alloc (.cells #[.int .i64 v, .int .i64 t.a, .int .u8 D] 72)).heap[wr.heap.size]? = some (.cells #[.int .i64 v, .int .i64 t.a, .int .u8 D] 72 (0, 0)) := ha_new _ _ _ rfl
            obtain ⟨n0, n1, n2, m0, m1, m2, hgx⟩ := blk3 hbx
            clear m0 m1 m2
            have hlt00 : w.heap.size < wr.heap.size := Nat.lt_of_lt_of_le hwlt hR.b1.size
            have hlt0 := lt_old (.cells #[.int .i64 v, .int .i64 t.a, .int .u8 D] 72) hlt00
            have hb04 := (ha_old wr (.cells #[.int .i64 v, .int .i64 t.a, .int .u8 D] 72) _ hlt00).trans hb03
            by_cases hvn : v < n
            · cases hls : (t.t == 2) with
              | true =>
                have h45 : ((C : Int) == 45) = true := by rw [← HLAST.out]; exact hls
                have HLS := Lib.hid hls
                obtain ⟨p, hp⟩ : ∃ p, prev = some p := by
                  cases hp : prev with
                  | some p => exact ⟨p, rfl⟩
                  | none =>
                    exfalso
                    have h1 := hR.p0 hp
                    have h2 := HFST.out h1
                    rw [h2] at h45
                    exact absurd h45 (by decide)
                have hpu := (HPS.out p hp).2
                subst hpu
                subst hp
                clear hls
                by_cases hlo : v ≤ p
                · have HP : Hid (pspec s (rv s) = .err t.a 1) := by
                    unfold Hid
                    rw [HST.out, if_neg (by omega), if_pos]
                    simpa [low, HLS.out] using hlo
                  go_wp2
                  go_quiet (fail)
                  go_wp2
                  go_region_with ((go_at_call 37; refine (none_any _).mono ?_; rintro x w5 ⟨rfl, hb5⟩; have n1' := (hb5.cell (p := ⟨wr.heap.size, 1, none⟩) (lt_new wr _)).trans n1; have hb05 := (hb5.block w.heap.size hlt0).trans hb04; obtain ⟨q0', q1', f0', f1', hg'⟩ := blk2 hb05))
                  all_goals
                    go_wp2
                    refine bodyPost_ret (res_ctt rfl _ _ (w.heap.size) 24 #[.int .i64 0, .slice none 0 0] (0, 0) _ rfl (hs_same (hs_same hb05 0 _) 1 _) Try.underlying24 rfl (by kernel_rfl)) rfl ?_
                    rw [HP.out]
                    refine ⟨?_, rfl⟩
                    repeat (first | exact hblw | apply bl_d | apply bl_dn | refine bl_s ?_ (Nat.le_refl _) _ | apply bl_a | refine bl_t ?_ hb5)
                · have HLO := Lib.hid hlo
                  obtain ⟨wo, rfl⟩ : ∃ wo : World, wo = wr := ⟨_, rfl⟩
                  go_wp2
                  go_quiet (fail)
                  go_wp2
                  go_loopw [11] (fun ev wi => ∃ (k : Nat) (bs' : List Bool), ev = .int .i64 k ∧ JRel w1 wi n w1.heap.size wo.heap.size #[.int .i64 v, .int .i64 t.a, .int .u8 D] f p k v bs') (fun ev _ => v - (intOf ev).toNat)
                  case atStart =>
                    refine ⟨p, bs, rfl, ⟨Nat.le_refl _, by have := HLO.out; omega, hR.len, (fun e he => ?_), hR.row.alloc _, hbx, bl_dn (bl_a hR.b1 _) _⟩⟩
                    have : ¬ (p ≤ e ∧ e < p) := by omega
                    simp [this, hR.set e he]
                  case round =>
                    obtain ⟨k, bs', rfl, hI⟩ := hrel
                    clear n0 n1 n2 hgx hbx
                    obtain ⟨n0, n1, n2, m0, m1, m2, hgx⟩ := blk3 hI.bx
                    have hkv := hI.kv
                    have hak := hI.ak
                    have hlen := hI.len
                    by_cases hk : k < v
                    · have hcw := hI.row.cell (j := k) (by omega)
                      have hfw := hI.row.frozen k
                      have hgl := hI.row.lt
                      go_wp2
                      go_roundw
                      case rel =>
                        refine ⟨k + 1, bs'.set k true, by go_num, ⟨by omega, by omega, by simp [hlen], (fun e he => ?_), hI.row.set (by omega) _, (hs_other _ _ _ _ (by have := hR.row.lt; simp; omega)).trans hI.bx, bl_s hI.b1 (Nat.le_refl _) _⟩⟩
                        rw [bd_set _ _ _ _ (by omega), hI.set e he]
                        by_cases h : e = k
                        · subst h; simp; omega
                        · rw [if_neg h]
                          congr 1
                          rw [Bool.eq_iff_iff]; simp; omega
                      case measure => simp [intOf]; omega
                    · have hkk : k = v := by omega
                      subst hkk
                      have hcw := hI.row.cell (j := k) (by omega)
                      have hfw := hI.row.frozen k
                      have hgl := hI.row.lt
                      go_wp2
                      go_roundw
                      case rel =>
                        refine ⟨m + 1, some k, more (some p) k true f, bs'.set k true, by go_num, ⟨by omega, by omega, ?_, (fun h => by cases h), (fun p h => ?_), by simp [hlen], (fun e he => ?_), hI.row.set (by omega) _, bl_s hI.b1 (Nat.le_refl _) _⟩⟩
                        · rw [HST.out, if_neg (by omega), if_neg, HLS.out]
                          rw [HLS.out]; simpa [low] using HLO.out
                        · injection h with h
                          subst h
                          exact ⟨by omega, by simpa using hlt, by simp only [Nat.add_sub_cancel]; rw [HV.out, HTT.out]⟩
                        · rw [bd_set _ _ _ _ (by omega), hI.set e he]
                          unfold more
                          by_cases h : e = k
                          · subst h; simp; omega
                          · rw [if_neg h]
                            congr 1
                            rw [Bool.eq_iff_iff]; simp; omega
                      case measure => simp [intOf]; omega
              | false =>
                have h45 : ((C : Int) == 45) = false := by rw [← HLAST.out]; exact hls
                have HLS := Lib.hid hls
                clear hls
                have hlen := hR.len
                have hcw := hR.row.cell (j := v) (by omega)
                have hfw := hR.row.frozen v
                have hgl := hR.row.lt
                cases hp : prev with
                | none =>
                  have hm11 := hR.p0 hp
                  have HM11 := Lib.hid hm11
                  clear hm11
                  subst hp
                  go_wp2
                  have hm12 : decide ((1 : Int) < m) = false := by rw [HM11.out]; rfl
                  go_quiet (fail)
                  clear hm12
                  go_wp2
                  go_roundw
                  case rel =>
                    refine ⟨m + 1, some v, more none v false f, bs.set v true, by go_num, ⟨by omega, by omega, ?_, (fun h => by cases h), (fun p h => ?_), by simp [hlen], (fun e he => ?_), (hR.row.alloc _).set (by omega) _, bl_s (bl_dn (bl_a hR.b1 _) _) (Nat.le_refl _) _⟩⟩
                    · rw [HST.out, if_neg (by omega), if_neg, HLS.out]
                      rw [HLS.out]; simp [low]
                    · injection h with h
                      subst h
                      exact ⟨by omega, by simpa using hlt, by simp only [Nat.add_sub_cancel]; rw [HV.out, HTT.out]⟩
                    · rw [bd_set _ _ _ _ (by omega), hR.set e he]
                      unfold more
                      by_cases h : e = v
                      · subst h; simp
                      · simp [h]
                  case measure => simp [intOf]; omega
                | some p =>
                  obtain ⟨hm2, hpu⟩ := HPS.out p hp
                  subst hpu
                  subst hp
                  have hw2 : IntKind.i64.wrap ((p : Int) + 2) = p + 2 := IntWalk.i64_in _ (by omega)
                  have hm12 : decide ((1 : Int) < m) = true := by rw [decide_eq_true_iff]; omega
                  by_cases hlo : (v : Int) < p + 2
                  · have HP : Hid (pspec s (rv s) = .err t.a 1) := by
                      unfold Hid
                      rw [HST.out, if_neg (by omega), if_pos]
                      rw [HLS.out]; simp [low]; omega
                    go_wp2
                    go_quiet (fail)
                    go_wp2
                    go_region_with ((go_at_call 37; refine (none_any _).mono ?_; rintro x w5 ⟨rfl, hb5⟩; have n1' := (hb5.cell (p := ⟨wr.heap.size, 1, none⟩) (lt_new wr _)).trans n1; have hb05 := (hb5.block w.heap.size hlt0).trans hb04; obtain ⟨q0', q1', f0', f1', hg'⟩ := blk2 hb05))
                    all_goals
                      go_wp2
                      refine bodyPost_ret (res_ctt rfl _ _ (w.heap.size) 24 #[.int .i64 0, .slice none 0 0] (0, 0) _ rfl (hs_same (hs_same hb05 0 _) 1 _) Try.underlying24 rfl (by kernel_rfl)) rfl ?_
                      rw [HP.out]
                      refine ⟨?_, rfl⟩
                      repeat (first | exact hblw | apply bl_d | apply bl_dn | refine bl_s ?_ (Nat.le_refl _) _ | apply bl_a | refine bl_t ?_ hb5)
                  · have HLO := Lib.hid hlo
                    go_wp2
                    go_quiet (fail)
                    go_wp2
                    go_roundw
                    case rel =>
                      refine ⟨m + 1, some v, more (some p) v false f, bs.set v true, by go_num, ⟨by omega, by omega, ?_, (fun h => by cases h), (fun p h => ?_), by simp [hlen], (fun e he => ?_), (hR.row.alloc _).set (by omega) _, bl_s (bl_dn (bl_a hR.b1 _) _) (Nat.le_refl _) _⟩⟩
                      · rw [HST.out, if_neg (by omega), if_neg, HLS.out]
                        rw [HLS.out]
                        have h2 := HLO.out
                        simp [low]; omega
                      · injection h with h
                        subst h
                        exact ⟨by omega, by simpa using hlt, by simp only [Nat.add_sub_cancel]; rw [HV.out, HTT.out]⟩
                      · rw [bd_set _ _ _ _ (by omega), hR.set e he]
                        unfold more
                        by_cases h : e = v
                        · subst h; simp
                        · simp [h]
                    case measure => simp [intOf]; omega
            · have HP : Hid (pspec s (rv s) = .err t.a 62) := by
                unfold Hid
                rw [HST.out, if_pos hvn]
              go_wp2
              go_region_with ((go_at_call 37; refine (none_any _).mono ?_; rintro x w5 ⟨rfl, hb5⟩; have n1' := (hb5.cell (p := ⟨wr.heap.size, 1, none⟩) (lt_new wr _)).trans n1; have hb05 := (hb5.block w.heap.size hlt0).trans hb04; obtain ⟨q0', q1', f0', f1', hg'⟩ := blk2 hb05))
              all_goals
                go_wp2
                refine bodyPost_ret (res_ctt rfl _ _ (w.heap.size) 24 #[.int .i64 0, .slice none 0 0] (0, 0) _ rfl (hs_same (hs_same hb05 0 _) 1 _) Try.underlying24 rfl (by kernel_rfl)) rfl ?_
                rw [HP.out]
                refine ⟨?_, rfl⟩
                repeat (first | exact hblw | apply bl_d | apply bl_dn | refine bl_s ?_ (Nat.le_refl _) _ | apply bl_a | refine bl_t ?_ hb5)
          · have HP : Hid (pspec s (rv s) = .set n f) := by
              unfold Hid
              rw [hR.an, pgo_end (by omega)]
            have hlen := hR.len
            have hb03 := (hR.b1.block _ (blk_lt HB0.out)).trans HB0.out
            have hwlt : w.heap.size < w1.heap.size := blk_lt HB0.out
            have hblw : Below w.heap.size w wr := bl_t (bl_t (bl_a (Below.refl _ _) _) hb) hR.b1
            have hofr := of_any (some ⟨w1.heap.size, 0, none⟩) n bs wr hR.row.rd (by omega)
            rw [hlen] at hofr
            go_wp2_with fail
            refine hofr.mono ?_
            rintro x w5 ⟨g, ws, rfl, hg, hwb, hws, hb5⟩
            have hb05 := (hb5.block w.heap.size (blk_lt hb03)).trans hb03
            obtain ⟨p0, p1, f0, f1, hg0⟩ := blk2 hb05
            have hgw : w.heap.size < wr.heap.size := blk_lt hb03
            go_wp2
            refine bodyPost_ret (res_ctt rfl _ _ (w.heap.size) 24 #[.int .i64 n, .slice (some ⟨g, 0, none⟩) ws.length ws.length] (0, 0) _ rfl (hs_same (hs_same hb05 0 _) 1 _) Try.underlying24 rfl (by kernel_rfl)) rfl ?_
            rw [HP.out]
            exact ⟨bl_s (bl_s (bl_t hblw hb5) (Nat.le_refl _) _) (Nat.le_refl _) _, g, ws, rfl, (hwb.other (by simp; omega) _).other (by simp; omega) _, hws.congr (fun e he => hR.set e he)⟩
      · have HP : Hid (pspec s (rv s) = .err 0 60) := by
          unfold Hid pspec
          rw [if_neg h0]
          have hsc : scan s 0 0 false = (⟨0, e, 0⟩ :: l, none) := by rw [← hl, ← hok]
          rw [hsc]
          simp only [Nat.sub_zero]
          rw [← HN.out, if_pos (by omega)]
        have hns : szB n = false := by unfold szB; simp; omega
        go_wp2_with (first | (go_at_call 39; refine (rsized_any n _).mono ?_; rintro e' w' ⟨rfl, rfl⟩) | fail)
        refine (none_any _).mono ?_
        rintro x w2 ⟨rfl, hb2⟩
        have hb02 := (hb2.block w.heap.size (blk_lt hb0)).trans hb0
        obtain ⟨p0, p1, f0, f1, hg⟩ := blk2 hb02
        go_wp2
        refine bodyPost_ret (res_ctt rfl _ _ (w.heap.size) 24 #[.int .i64 0, .slice none 0 0] (0, 0) _ rfl (hs_same (hs_same hb02 0 _) 1 _) Try.underlying24 rfl (by kernel_rfl)) rfl ?_
        rw [HP.out]
        exact ⟨bl_s (bl_s (bl_t (bl_t (bl_a (Below.refl _ _) _) hb) hb2) (Nat.le_refl _) _) (Nat.le_refl _) _, rfl⟩
end Go.Proofs.Ytlmjfcieiengcaa
