/- bitset.All's value and bitset.Shift. The words are words; the length is one that a slice can have. -/
import Derived.Test.YtlmjfcieiengcaaDoorIter
import Derived.Test.YtlmjfcieiengcaaDoorMove
namespace Go.Proofs.YtlmjfcieiengcaaDoor
open Go.RowKit Go.Shelf
attribute [local go_sem] Oper.semAt_some
set_option maxHeartbeats 4000000 in
theorem all_any (sz : Int) (A : Option Addr) (c : Nat) (ws : List Nat) (w : World) (hr : Rd w A ws) (hlt : ∀ j, wd ws j < 18446744073709551616) (hA : A = none → ws.length = 0 ∧ c = 0) (hl : ws.length ≤ 9223372036854775807) :
    Calls Tryd.prog 38 #[.agg #[.int .i64 sz, .slice A ws.length c]] w fun x w' => ∃ B A' c', x = .returned (.func (.func 77) #[] #[.pointer (some ⟨B, 0, none⟩)]) ∧ w'.cell? ⟨B, 0, none⟩ = some (.slice A' (mine sz ws).length c') ∧ w.heap.size ≤ B ∧ B < w'.heap.size ∧ Rd w' A' (mine sz ws) ∧ (∀ a, A' = some a → w.heap.size ≤ a.block ∧ a.block < w'.heap.size) ∧ Below w.heap.size w w' := by
  have HOWN := Lib.hid (fun W hW => own_any sz A c ws W hW hlt hA hl)
  have hbl0 := bl_a (Below.refl w.heap.size w) (.cells #[.int .i64 sz, .slice A ws.length c] 24)
  go_enter Tryd.func38, Tryd.ntmps38
  go_wp2_with fail
  refine (HOWN.out _ (hr.below hbl0)).mono ?_
  rintro x w1 ⟨A', c', rfl, hrd, hAA, hAn, hb1⟩
  have hs1 : w.heap.size < w1.heap.size := Nat.lt_of_lt_of_le (lt_new w _) hb1.size
  go_wp2
  go_ret
  refine ⟨w1.heap.size, A', c', rfl, by simp, by omega, by simp, (hrd.below (bl_a (Below.refl _ _) _)), (fun a h => ?_), bl_a (bl_t hbl0 hb1) _⟩
  obtain ⟨h1, h2, _⟩ := hAA a h
  simp at h1 ⊢
  omega
theorem own_cells {B : Nat} {W W' : World} {row : Option Nat} {k : Nat} {cs : Array Value} {t : TypeId} {fr : Nat × Nat} (h : W.heap[k]? = some (.cells cs t fr)) (hg : W.grownBy W' row) (hr : ∀ r, row = some r → B ≤ r ∧ ∃ o : Obj, W.heap[r]? = some o ∧ o.isCells = false) : W'.heap[k]? = some (.cells cs t fr) :=
  (hg.block k (blk_lt h) (fun e => by
    obtain ⟨_, o, ho, hc⟩ := hr k e.symm
    rw [h] at ho
    injection ho with ho
    subst ho
    simp [Obj.isCells] at hc)).trans h
theorem own_wbf {B : Nat} {W W' : World} {row : Option Nat} {g : Nat} {vs : List Nat} (h : WB W g vs) (hg : W.grownBy W' row) (hr : ∀ r, row = some r → B ≤ r ∧ ∃ o : Obj, W.heap[r]? = some o ∧ o.isCells = false) : WB W' g vs := by
  obtain ⟨sp, h⟩ := h
  exact ⟨sp, own_cells h hg hr⟩
theorem ko_below {W W' : World} (h : Below W.heap.size W W') : KeepsOthers W W' := ⟨h.size, fun k o hk _ => (h.block k (blk_lt hk)).trans hk⟩
theorem ko_grown {W W' : World} {g : Nat} {vs : List Nat} (h : W.grownBy W' (some g)) (hw : WB W g vs) : KeepsOthers W W' := ⟨h.size, fun k o hk hc => (h.block k (blk_lt hk) (by
  intro e
  injection e with e
  subst e
  obtain ⟨sp, hw⟩ := hw
  rw [hw] at hk
  injection hk with hk
  subst hk
  simp [Obj.isCells] at hc)).trans hk⟩
/-- between two rounds of a loop over the elements that sets bits in g -/
structure SI (w w3 : World) (s : Nat) (ws : List Nat) (n : Int) (A : Option Addr) (c g gt : Nat) (pre : List (El ws)) (W : World) : Prop where
  vs : ∃ vs, WB W g vs ∧ Ws vs s (fun j => pre.any fun x => decide ((x.1 : Int) + n = j))
  bt : W.heap[gt]? = some (.cells #[.int .i64 s, .slice (some ⟨g, 0, none⟩) (nw s) (nw s)] 24 (0, 0))
  bx : W.heap[w.heap.size]? = some (.cells #[.int .i64 s, .slice A ws.length c] 24 (0, 0))
  bn : W.heap[w.heap.size + 1]? = some (.cells #[.int .i64 n] 3 (0, 0))
  by' : W.heap[w.heap.size + 1 + 1]? = some (.cells #[.int .i64 0, .slice none 0 0] 24 (0, 0))
  sz : w3.heap.size ≤ W.heap.size
theorem SI.own {w w3 : World} {s : Nat} {ws : List Nat} {n : Int} {A : Option Addr} {c g gt B : Nat} : OwnFrom B (SI w w3 s ws n A c g gt) := by
  intro pre W W' row h hg hr
  obtain ⟨vs, h1, h2⟩ := h.vs
  exact ⟨⟨vs, own_wbf h1 hg hr, h2⟩, own_cells h.bt hg hr, own_cells h.bx hg hr, own_cells h.bn hg hr, own_cells h.by' hg hr, Nat.le_trans h.sz hg.size⟩
def shf (sz : Nat) (ws : List Nat) (n : Int) (j : Nat) : Bool := decide (0 ≤ (j : Int) - n ∧ (j : Int) - n < sz) && mem ws ((j : Int) - n).toNat
theorem mem_upto {ws : List Nat} {N : Nat} (x : El ws) : x ∈ upto ws N ↔ x.1 < N := by
  unfold upto
  rw [List.mem_filterMap]
  constructor
  · rintro ⟨e, h1, h2⟩
    rw [List.mem_range] at h1
    unfold el? at h2
    split at h2
    · injection h2 with h2
      subst h2
      exact h1
    · cases h2
  · intro h
    refine ⟨x.1, List.mem_range.2 h, ?_⟩
    unfold el?
    rw [dif_pos x.2]
theorem mem_low {ws : List Nat} {e : Nat} (h : mem ws e = true) : e < 64 * ws.length := by
  apply Decidable.byContradiction
  intro h2
  rw [mem_ge (by omega)] at h
  cases h
theorem shf_any {s : Nat} {ws : List Nat} {n : Int} (hws : Ws ws s (mem ws)) (j : Nat) : ((upto ws (64 * ws.length)).any fun x => decide ((x.1 : Int) + n = j)) = shf s ws n j := by
  rw [Bool.eq_iff_iff, List.any_eq_true]
  unfold shf
  rw [Bool.and_eq_true, decide_eq_true_iff]
  constructor
  · rintro ⟨x, _, h2⟩
    rw [decide_eq_true_iff] at h2
    have h3 := hws.has x.1
    rw [x.2] at h3
    simp at h3
    have h4 : ((j : Int) - n).toNat = x.1 := by omega
    rw [h4]
    exact ⟨by omega, x.2⟩
  · rintro ⟨⟨h1, h2⟩, h3⟩
    exact ⟨⟨_, h3⟩, (mem_upto _).2 (mem_low h3), by rw [decide_eq_true_iff]; simp only; omega⟩
noncomputable def shspec (sz : Int) (ws : List Nat) (n : Int) : SA := if mayB sz ws = false then .err 61 else .set sz.toNat (shf sz.toNat ws n)
set_option maxHeartbeats 10000000 in
set_option maxRecDepth 100000 in
theorem shift_any (sz n : Int) (A : Option Addr) (c : Nat) (ws : List Nat) (w : World) (hr : Rd w A ws) (hlt : ∀ j, wd ws j < 18446744073709551616) (hA : A = none → ws.length = 0 ∧ c = 0) (hl : ws.length ≤ 9223372036854775807) (hT : TabOk w) :
    Calls Tryd.prog 15 #[.agg #[.int .i64 sz, .slice A ws.length c], .int .i64 n] w (SAPost (shspec sz ws n) w) := by
  have HMAY := Lib.hid (fun W hW => may_any sz A c ws W hW hlt hl)
  have HALL := Lib.hid (fun W hW => all_any sz A c ws W hW hlt hA hl)
  have hbl0 := bl_a (bl_a (bl_a (Below.refl w.heap.size w) (.cells #[.int .i64 sz, .slice A ws.length c] 24)) (.cells #[.int .i64 n] 3)) (.cells #[.int .i64 0, .slice none 0 0] 24)
  have hbx0 : (((w.alloc (.cells #[.int .i64 sz, .slice A ws.length c] 24)).alloc (.cells #[.int .i64 n] 3)).alloc (.cells #[.int .i64 0, .slice none 0 0] 24)).heap[w.heap.size]? = some (.cells #[.int .i64 sz, .slice A ws.length c] 24 (0, 0)) := (ha_old _ _ _ (by simp; omega)).trans ((ha_old _ _ _ (by simp)).trans (ha_new _ _ _ rfl))
  have hbn0 : (((w.alloc (.cells #[.int .i64 sz, .slice A ws.length c] 24)).alloc (.cells #[.int .i64 n] 3)).alloc (.cells #[.int .i64 0, .slice none 0 0] 24)).heap[w.heap.size + 1]? = some (.cells #[.int .i64 n] 3 (0, 0)) := (ha_old _ _ _ (by simp)).trans (ha_new _ _ _ (by simp))
  have hby0 : (((w.alloc (.cells #[.int .i64 sz, .slice A ws.length c] 24)).alloc (.cells #[.int .i64 n] 3)).alloc (.cells #[.int .i64 0, .slice none 0 0] 24)).heap[w.heap.size + 2]? = some (.cells #[.int .i64 0, .slice none 0 0] 24 (0, 0)) := ha_new _ _ _ (by simp)
  cases hm : mayB sz ws with
  | false =>
    have HP : Hid (shspec sz ws n = .err 61) := by unfold Hid shspec; rw [if_pos hm]
    have HM := Lib.hid hm
    clear hm
    go_enter Tryd.func15, Tryd.ntmps15
    go_wp2_with fail
    refine (HMAY.out _ (hr.below hbl0)).mono ?_
    rw [HM.out]
    rintro x w1 ⟨rfl, hb1⟩
    have hby1 := (hb1.block _ (blk_lt hby0)).trans hby0
    obtain ⟨p0, p1, f0, f1, hg⟩ := blk2 hby1
    go_wp2
    refine bodyPost_ret (res_ct rfl _ _ (w.heap.size + 2) 24 #[.int .i64 0, .slice none 0 0] (0, 0) _ rfl (hs_same (hs_same hby1 0 _) 1 _) Tryd.underlying24 rfl (by kernel_rfl)) rfl ?_
    rw [HP.out]
    exact ⟨bl_s (bl_s (bl_t hbl0 hb1) (by simp; omega) _) (by simp; omega) _, rfl⟩
  | true =>
    have hmp : MayP sz ws := by
      have := hm
      unfold mayB at this
      simpa using this
    obtain ⟨s, rfl⟩ : ∃ s : Nat, sz = s := ⟨sz.toNat, by have := hmp.1; omega⟩
    have hs4 : s ≤ 4096 := by have := hmp.2.1; omega
    have HMI : Hid (mine s ws = ws) := by unfold Hid mine; rw [hm]; rfl
    have HP : Hid (shspec s ws n = .set s (shf s ws n)) := by unfold Hid shspec; rw [if_neg (by rw [hm]; simp)]; simp
    have HMP := Lib.hid hmp
    have HM := Lib.hid hm
    clear hm hmp
    by_cases hbig : (s : Int) ≤ n ∨ n ≤ -(s : Int)
    · have HF : Hid (∀ j, j < s → (fun _ => false) j = shf s ws n j) := by
        intro j hj
        unfold shf
        have : ¬ (0 ≤ (j : Int) - n ∧ (j : Int) - n < s) := by omega
        have h2 : decide (0 ≤ (j : Int) - n ∧ (j : Int) - n < s) = false := decide_eq_false this
        rw [h2]
        rfl
      go_enter Tryd.func15, Tryd.ntmps15
      go_wp2_with fail
      refine (HMAY.out _ (hr.below hbl0)).mono ?_
      rw [HM.out]
      rintro x w1 ⟨rfl, hb1⟩
      have hbx1 := (hb1.block _ (blk_lt hbx0)).trans hbx0
      have hbn1 := (hb1.block _ (blk_lt hbn0)).trans hbn0
      have hby1 := (hb1.block _ (blk_lt hby0)).trans hby0
      obtain ⟨q0, q1, r0, r1, hg1⟩ := blk2 hbx1
      obtain ⟨m0, mf, hgm⟩ := blk1 hbn1
      go_wp2_with fail
      refine (blank_any s (by omega) _).mono ?_
      rintro x w2 ⟨g, rfl, hg0, hwb, hb2⟩
      have hbx2 := (hb2.block _ (blk_lt hbx1)).trans hbx1
      have hbn2 := (hb2.block _ (blk_lt hbn1)).trans hbn1
      have hby2 := (hb2.block _ (blk_lt hby1)).trans hby1
      clear q0 q1 r0 r1 m0 mf
      obtain ⟨q0, q1, r0, r1, hg2⟩ := blk2 hbx2
      obtain ⟨m0, mf, hgm⟩ := blk1 hbn2
      obtain ⟨y0, y1, z0, z1, hgy⟩ := blk2 hby2
      have hbl2 := bl_t (bl_t hbl0 hb1) hb2
      have hy3 := blk_lt hby1
      have hy4 := blk_lt hby2
      by_cases hbig1 : (s : Int) ≤ n
      · clear hbig
        go_wp2
        refine bodyPost_ret (res_ct rfl _ _ (w.heap.size + 2) 24 #[.int .i64 s, .slice (some ⟨g, 0, none⟩) (nw s) (nw s)] (0, 0) _ rfl ((ha_old _ _ _ (by simp; omega)).trans (hs_same (hs_same hby2 0 _) 1 _)) Tryd.underlying24 rfl (by kernel_rfl)) rfl ?_
        rw [HP.out]
        exact ⟨bl_a (bl_s (bl_s hbl2 (by simp; omega) _) (by simp; omega) _) _, g, List.replicate (nw s) 0, by simp, by omega, ((hwb.other (by simp; omega) _).other (by simp; omega) _).alloc _, (Ws.empty s).congr HF.out⟩
      · have hbig2 : n ≤ -(s : Int) := by omega
        clear hbig
        go_wp2
        refine bodyPost_ret (res_ct rfl _ _ (w.heap.size + 2) 24 #[.int .i64 s, .slice (some ⟨g, 0, none⟩) (nw s) (nw s)] (0, 0) _ rfl ((ha_old _ _ _ (by simp; omega)).trans (hs_same (hs_same hby2 0 _) 1 _)) Tryd.underlying24 rfl (by kernel_rfl)) rfl ?_
        rw [HP.out]
        exact ⟨bl_a (bl_s (bl_s hbl2 (by simp; omega) _) (by simp; omega) _) _, g, List.replicate (nw s) 0, by simp, by omega, ((hwb.other (by simp; omega) _).other (by simp; omega) _).alloc _, (Ws.empty s).congr HF.out⟩
    · have hn1 : ¬ (s : Int) ≤ n := by omega
      have hn2 : ¬ n ≤ -(s : Int) := by omega
      clear hbig
      refine (callsIn_wide (n := 3)).1 ?_
      refine callsIn_of_wp_marks Tryd.func15 rfl trivial ?_ rfl
      simp only [Tryd.ntmps15, List.size_toArray, List.length_cons, List.length_nil, Nat.reduceAdd, Nat.reduceSub, Array.replicate_succ, Array.replicate_zero, List.push_toArray, List.append_toArray, List.nil_append, List.cons_append]
      gi_wp2_with (refine ⟨trivial, ?_⟩; gi_at_call 64; refine (callsIn_wide.2 (HMAY.out _ (hr.below hbl0))).mono ?_; rw [HM.out]; rintro x w1 ⟨rfl, hb1⟩; have hbx1 := (hb1.block _ (blk_lt hbx0)).trans hbx0; have hbn1 := (hb1.block _ (blk_lt hbn0)).trans hbn0; have hby1 := (hb1.block _ (blk_lt hby0)).trans hby0; obtain ⟨q0, q1, r0, r1, hg1⟩ := blk2 hbx1; obtain ⟨m0, mf, hgm⟩ := blk1 hbn1; have hblank := blank_any s (by omega) w1)
      refine ⟨trivial, ?_⟩
      refine (callsIn_wide.2 hblank).mono ?_
      rintro x w2 ⟨g, rfl, hg0, hwb, hb2⟩
      have hbx2 := (hb2.block _ (blk_lt hbx1)).trans hbx1
      have hbn2 := (hb2.block _ (blk_lt hbn1)).trans hbn1
      have hby2 := (hb2.block _ (blk_lt hby1)).trans hby1
      clear q0 q1 r0 r1 m0 mf
      obtain ⟨q0, q1, r0, r1, hg2⟩ := blk2 hbx2
      obtain ⟨m0, mf, hgm⟩ := blk1 hbn2
      have hbl2 := bl_t (bl_t hbl0 hb1) hb2
      have hbt0 := ha_new w2 (.cells #[.int .i64 s, .slice (some ⟨g, 0, none⟩) (nw s) (nw s)] 24) w2.heap.size rfl
      have hbl3 := bl_a hbl2 (.cells #[.int .i64 s, .slice (some ⟨g, 0, none⟩) (nw s) (nw s)] 24)
      have HALLW := HALL.out _ (hr.below hbl3)
      gi_wp2
      refine ⟨trivial, ?_⟩
      refine (callsIn_wide.2 HALLW).mono ?_
      rw [HMI.out]
      rintro x w3 ⟨B, A', c', rfl, hcB, hB0, hB1, hrd, hAA, hb3⟩
      have hgl := hwb.lt
      have hs2 : w2.heap.size < (w2.alloc (.cells #[.int .i64 s, .slice (some ⟨g, 0, none⟩) (nw s) (nw s)] 24)).heap.size := lt_new _ _
      have hbl4 := bl_t hbl3 hb3
      have hwl : ws.length ≤ 64 := by have := HMP.out.2.2.1; rw [nw_eq] at this; simp at this; omega
      have h03 : w2.heap.size < w3.heap.size := Nat.lt_of_lt_of_le hs2 hb3.size
      have hws0 : w.heap.size ≤ w2.heap.size := hbl2.size
      have hw1s : w.heap.size ≤ w1.heap.size := (bl_t hbl0 hb1).size
      have hTl := hT.2
      gi_wp2
      refine wpIn_rangeFunc_ownF rfl (by omega) (gf := 77) (lb := #[.pointer (some ⟨B, 0, none⟩)]) rfl trivial (enters_of Tryd.func77 (by kernel_rfl) rfl)
        (all_stops 2 B c' (fun k => k < w3.heap.size ∧ k ≠ g) A' ws hwl hlt w3 hB1 hcB hrd (fun a h => by have := hAA a h; exact ⟨this.2, by omega⟩) (hT.below hbl4) ⟨by omega, by omega⟩)
        Keeps.trans (fun W l o o' hl hh _ _ => ⟨by simp, fun k hk => World.putObj_heap_other (by omega)⟩) (Below.refl _ _) (fun _ => rfl)
        (fun pre W => SI w w3 s ws n A c g w2.heap.size pre W ∧ Below w.heap.size w W)
        (fun _ _ _ => False)
        (OwnFrom.and SI.own (ownFrom_below (Nat.le_refl _) (by omega)))
        (fun _ _ _ _ _ hs _ _ => hs)
        ⟨⟨⟨_, (hwb.alloc _).below hb3, (Ws.empty s).congr (fun e _ => by simp)⟩, (hb3.block _ hs2).trans hbt0, (hb3.block _ (by omega)).trans ((ha_old _ _ _ (by have := blk_lt hbx2; omega)).trans hbx2), (hb3.block _ (by have := blk_lt hbn2; omega)).trans ((ha_old _ _ _ (blk_lt hbn2)).trans hbn2), (hb3.block _ (by have := blk_lt hby2; omega)).trans ((ha_old _ _ _ (blk_lt hby2)).trans hby2), Nat.le_refl _⟩, hbl4⟩
        (fun x => { tmps := #[.agg #[.int .i64 s, .slice A ws.length c], .int .i64 n, .pointer (some ⟨w.heap.size, 0, none⟩), .pointer (some ⟨w.heap.size + 1, 0, none⟩), .pointer (some ⟨w.heap.size + 1 + 1, 0, none⟩), .int .i64 0, .pointer (some ⟨w2.heap.size, 0, none⟩), .int .i64 (x.1 : Nat), .agg #[.int .i64 s, .slice A ws.length c], .bool true, .bool false, undef, .pointer (some ⟨w.heap.size, 0, none⟩), .int .i64 s, .agg #[.int .i64 s, .slice (some ⟨g, 0, none⟩) (nw s) (nw s)], .int .i64 n, .pointer (some ⟨w.heap.size, 0, none⟩), .int .i64 s, .bool (decide ((s : Int) ≤ n)), .bool (decide ((s : Int) ≤ n)), .int .i64 n, .pointer (some ⟨w.heap.size, 0, none⟩), .int .i64 s, .int .i64 (-(s : Int)), .bool (decide (n ≤ -(s : Int))), .bool (decide ((s : Int) ≤ n) || decide (n ≤ -(s : Int))), undef, .agg #[.int .i64 s, .slice A ws.length c], .func (.func 77) #[] #[.pointer (some ⟨B, 0, none⟩)], .int .i64 (x.1 : Nat), undef, undef, undef, undef, undef, undef, undef, undef, undef, undef, undef], defers := [] }) ?assign ?body ?done ?stop
      case assign =>
        intro l x W K hK
        gi_wp2
        exact hK
      case stop =>
        rintro D c pre W _ _ h _
        exact h.elim
      case body =>
        rintro l pre x W ⟨hS, hB⟩ hlen
        obtain ⟨e, he⟩ := x
        have hes : e < s := by
          have h1 := (HMP.out.ws hlt).has e
          rw [he] at h1
          simp at h1
          exact h1
        obtain ⟨vs, hwv, hvs⟩ := hS.vs
        obtain ⟨q0', q1', r0', r1', hgx'⟩ := blk2 hS.bx
        obtain ⟨m0', mf', hgm'⟩ := blk1 hS.bn
        obtain ⟨t0', t1', u0', u1', hgt'⟩ := blk2 hS.bt
        have hSz := hS.sz
        clear q0 q1 r0 r1 m0 mf
        dsimp only
        by_cases hin : 0 ≤ (e : Int) + n ∧ (e : Int) + n < s
        · obtain ⟨j, hj⟩ : ∃ j : Nat, (e : Int) + n = j := ⟨((e : Int) + n).toNat, by omega⟩
          have hjs : j < s := by omega
          have hinb : inB j s = true := by unfold inB; simp; omega
          have HWI := Lib.hid (within_any s j (.slice A ws.length c) W)
          rw [hinb] at HWI
          clear hin
          gi_wp2_with (refine ⟨trivial, ?_⟩; gi_at_call 66; refine (CallsIn.inRound l (callsIn_wide.2 HWI.out)).mono ?_; rintro x W2 ⟨rfl, hb4⟩; have hwv2 := hwv.below hb4; have hbn2' := (hb4.block _ (blk_lt hS.bn)).trans hS.bn; have hbt2' := (hb4.block _ (blk_lt hS.bt)).trans hS.bt; obtain ⟨m0', mf', hgm'⟩ := blk1 hbn2'; obtain ⟨t0', t1', u0', u1', hgt'⟩ := blk2 hbt2')
          have hput := put_any s g (nw s) j vs W2 hwv2 (by rw [hvs.len, nw_eq]; omega) (by rw [hvs.len, nw_eq]; omega) hvs.lt
          rw [hvs.len] at hput
          refine ⟨trivial, ?_⟩
          refine (CallsIn.inRound l (callsIn_wide.2 hput)).mono ?_
          rintro y W3 ⟨rfl, hw5, hg5⟩
          have hx1 := blk_lt hbx1
          have hn1' := blk_lt hbn1
          have hy1' := blk_lt hby1
          gi_wp2
          have hsz4 := hb4.size
          refine ⟨(ko_below hb4).trans (ko_grown hg5 hwv2), (Keeps.below hb4 (fun k hk => by omega)).trans (Keeps.grown hg5 (fun k hk => by omega)), ⟨⟨setb vs j, hw5, (hvs.put hjs).congr (fun i hi => ?_)⟩, blk_grown hbt2' hg5 (by intro h; injection h with h; omega), blk_grown ((hb4.block _ (blk_lt hS.bx)).trans hS.bx) hg5 (by intro h; injection h with h; omega), blk_grown hbn2' hg5 (by intro h; injection h with h; omega), blk_grown ((hb4.block _ (blk_lt hS.by')).trans hS.by') hg5 (by intro h; injection h with h; omega), by have := hg5.size; omega⟩, bl_g (bl_t hB hb4) hg5 (by omega)⟩
          rw [List.any_append]
          congr 1
          simp only [List.any_cons, List.any_nil, Bool.or_false]
          rw [hj, Bool.eq_iff_iff, decide_eq_true_iff, decide_eq_true_iff]
          omega
        · have hinb : inB ((e : Int) + n) s = false := by unfold inB; simp; omega
          have hrng : -9223372036854775808 ≤ (e : Int) + n ∧ (e : Int) + n ≤ 9223372036854775807 := by omega
          have HWI := Lib.hid (within_any s ((e : Int) + n) (.slice A ws.length c) W)
          rw [hinb] at HWI
          gi_wp2_with (refine ⟨trivial, ?_⟩; gi_at_call 66; refine (CallsIn.inRound l (callsIn_wide.2 HWI.out)).mono ?_; rintro x W2 ⟨rfl, hb4⟩)
          have hsz4 := hb4.size
          refine ⟨ko_below hb4, Keeps.below hb4 (fun k hk => by omega), ⟨⟨vs, hwv.below hb4, hvs.congr (fun i hi => ?_)⟩, (hb4.block _ (blk_lt hS.bt)).trans hS.bt, (hb4.block _ (blk_lt hS.bx)).trans hS.bx, (hb4.block _ (blk_lt hS.bn)).trans hS.bn, (hb4.block _ (blk_lt hS.by')).trans hS.by', by omega⟩, bl_t hB hb4⟩
          rw [List.any_append]
          have : ¬ (e : Int) + n = i := by omega
          simp [this]
      case done =>
        rintro D ys W hD rfl ⟨hS, hB⟩ hK
        obtain ⟨vs, hwv, hvs⟩ := hS.vs
        obtain ⟨y0', y1', z0', z1', hgy'⟩ := blk2 hS.by'
        obtain ⟨t0', t1', u0', u1', hgt'⟩ := blk2 hS.bt
        clear q0 q1 r0 r1 m0 mf
        gi_wp2
        have hy3 := blk_lt hby1
        have hw12 := hb2.size
        have hx1 := blk_lt hbx1
        have hsz3 := hS.sz
        refine ⟨by simp, .inl ⟨_, _, rfl, run_takeDeferred (((hs_other _ _ _ D (by simp; omega)).trans (hs_other _ _ _ D (by simp; omega))).trans hK), ?_⟩⟩
        refine ⟨_, res_ct rfl _ _ (w.heap.size + 1 + 1) 24 #[.int .i64 s, .slice (some ⟨g, 0, none⟩) (nw s) (nw s)] (0, 0) _ rfl ((World.putObj_heap_other (by omega)).trans (hs_same (hs_same hS.by' 0 _) 1 _)) Tryd.underlying24 rfl (by kernel_rfl), ?_⟩
        rw [HP.out]
        refine ⟨?_, g, vs, by rw [hvs.len]; rfl, by omega, ?_, ?_⟩
        · exact (bl_s (bl_s hB (by simp; omega) _) (by simp; omega) _).trans (belowK_b (w := w) (Nat.le_refl _) _ D _ _ (by omega) (((hs_other _ _ _ D (by simp; omega)).trans (hs_other _ _ _ D (by simp; omega))).trans hK) rfl rfl)
        · exact ((hwv.other (by simp; omega) _).other (by simp; omega) _).grown (grownBy_putObj' _ D _) (by intro h; injection h with h; omega)
        · exact hvs.congr (fun j hj => shf_any (by have := HMP.out.ws hlt; simpa using this) j)
end Go.Proofs.YtlmjfcieiengcaaDoor
