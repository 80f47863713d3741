/- bitset.Make: the set of the numbers of a list, or the error. The length is one that a slice can have. -/
import Derived.Test.YtlmjfcieiengcaaInts
import Derived.Test.YtlmjfcieiengcaaAnswer
namespace Go.Proofs.Ytlmjfcieiengcaa
open Go.RowKit
def mkgo (n : Nat) : List Int → (Nat → Bool) → SA
  | [], f => .set n f
  | x :: l, f => if x < 0 ∨ (n : Int) ≤ x then .err 62 else mkgo n l (fun y => f y || decide (y = x.toNat))
def mkspec (size : Int) (zs : List Int) : SA := if szB size = false then .err 60 else mkgo size.toNat zs fun _ => false
theorem mkgo_step {n : Nat} {zs : List Int} {e : Nat} {f : Nat → Bool} (he : e < zs.length) :
    mkgo n (zs.drop e) f = if zd zs e < 0 ∨ (n : Int) ≤ zd zs e then .err 62 else mkgo n (zs.drop (e + 1)) (fun y => f y || decide (y = (zd zs e).toNat)) := by
  rw [List.drop_eq_getElem_cons he, zd_lt he]
  rfl
theorem mkgo_end {n : Nat} {zs : List Int} {e : Nat} {f : Nat → Bool} (he : zs.length ≤ e) : mkgo n (zs.drop e) f = .set n f := by
  rw [List.drop_eq_nil_of_le he]
  rfl
structure KRel (w1 wr : World) (an : SA) (n : Nat) (zs : List Int) (g gs e : Nat) (f : Nat → Bool) (vs : List Nat) : Prop where
  he : e ≤ zs.length
  an : an = mkgo n (zs.drop e) f
  set : Ws vs n f
  row : WB wr g vs
  bs : wr.heap[gs]? = some (.cells #[.int .i64 n, .slice (some ⟨g, 0, none⟩) (nw n) (nw n)] 24 (0, 0))
  hgs : w1.heap.size ≤ gs
  hg : w1.heap.size ≤ g
  ne : gs ≠ g
  b1 : Below w1.heap.size w1 wr
theorem KRel.below {w1 wr w3 : World} {an : SA} {n : Nat} {zs : List Int} {g gs e : Nat} {f : Nat → Bool} {vs : List Nat} (h : KRel w1 wr an n zs g gs e f vs) (hb : Below wr.heap.size wr w3) : KRel w1 w3 an n zs g gs e f vs :=
  ⟨h.he, h.an, h.set, h.row.below hb, (hb.block _ (blk_lt h.bs)).trans h.bs, h.hgs, h.hg, h.ne, bl_t h.b1 hb⟩
set_option maxHeartbeats 10000000 in
set_option maxRecDepth 100000 in
theorem make_any (size : Int) (B : Option Addr) (d : Nat) (zs : List Int) (w : World) (hz : RdI w B zs) (hlz : zs.length ≤ 9223372036854775807) :
    Calls Try.prog 25 #[.int .i64 size, .slice B zs.length d] w (SAPost (mkspec size zs) w) := by
  have hbl0 := bl_a (Below.refl w.heap.size w) (.cells #[.int .i64 0, .slice none 0 0] 24)
  have hby0 : (w.alloc (.cells #[.int .i64 0, .slice none 0 0] 24)).heap[w.heap.size]? = some (.cells #[.int .i64 0, .slice none 0 0] 24 (0, 0)) := ha_new _ _ _ rfl
  obtain ⟨w1, hw1⟩ : ∃ w1, w1 = w.alloc (.cells #[.int .i64 0, .slice none 0 0] 24) := ⟨_, rfl⟩
  have HW1 := Lib.hid hw1
  rw [← hw1] at hbl0 hby0
  have hw0 : w.heap.size < w1.heap.size := by rw [hw1]; simp
  cases hs : szB size with
  | false =>
    have HP : Hid (mkspec size zs = .err 60) := by unfold Hid mkspec; rw [if_pos hs]
    go_enter Try.func25, Try.ntmps25
    go_wp2_with (go_at_call 33; refine (sized_any size _).mono ?_; rintro e' w' ⟨rfl, rfl⟩)
    rw [← HW1.out] at *
    refine bodyPost_ret (res_ct rfl _ _ w.heap.size 24 #[.int .i64 0, .slice none 0 0] (0, 0) _ rfl hby0 Try.underlying24 rfl (by kernel_rfl)) rfl ?_
    rw [HP.out]
    exact ⟨hbl0, rfl⟩
  | true =>
    obtain ⟨n, rfl⟩ : ∃ n : Nat, size = n := ⟨size.toNat, by unfold szB at hs; simp at hs; omega⟩
    have hn : n ≤ 4096 := by unfold szB at hs; simp at hs; omega
    have HP : Hid (mkspec n zs = mkgo n zs fun _ => false) := by unfold Hid mkspec; rw [if_neg (by rw [hs]; simp)]; rfl
    have hBK := blank_any n (by omega) w1
    have HBK := Lib.hid hBK
    rw [hw1] at HBK
    clear hBK hw1
    go_enter Try.func25, Try.ntmps25
    go_wp2_with (first | (go_at_call 33; refine (sized_any n _).mono ?_; rintro e' w' ⟨rfl, rfl⟩) | (go_at_call 34; refine HBK.out.mono ?_; rintro e' w2 ⟨g, rfl, hg1, hwb, hb2⟩))
    rw [← HW1.out] at hg1 hb2
    have hwl := hwb.lt
    go_loopw [17] (fun i wr => ∃ (e : Nat) (f : Nat → Bool) (vs : List Nat), i = .int .i64 e ∧ KRel w1 wr (mkspec n zs) n zs g w2.heap.size e f vs) (fun i _ => zs.length - (intOf i).toNat)
    case atStart =>
      exact ⟨0, fun _ => false, List.replicate (nw n) 0, rfl, ⟨by omega, by rw [HP.out, List.drop_zero], Ws.empty n, hwb.alloc _, ha_new _ _ _ rfl, hb2.size, by omega, by omega, bl_a hb2 _⟩⟩
    case round =>
      obtain ⟨e, f, vs, rfl, hR⟩ := hrel
      clear hwb
      have he := hR.he
      obtain ⟨s0, s1, t0, t1, hgs⟩ := blk2 hR.bs
      have hby := (hR.b1.block _ (blk_lt hby0)).trans hby0
      obtain ⟨p0, p1, f0, f1, hgy⟩ := blk2 hby
      have hblw : Below w.heap.size w wr := bl_t hbl0 hR.b1
      have hn1 : w.heap.size ≠ w2.heap.size := by have := hR.hgs; omega
      have hn2 : w.heap.size ≠ g := by have := hR.hg; omega
      by_cases hlt2 : e < zs.length
      · obtain ⟨b, off, rfl, hblt, hcell⟩ := hz e hlt2
        have hcz := (hblw.cell (p := ⟨b, off + e, none⟩) hblt).trans hcell
        have hbw : b < wr.heap.size := Nat.lt_of_lt_of_le hblt hblw.size
        have hst := mkgo_step (n := n) (f := f) hlt2
        rw [← hR.an] at hst
        obtain ⟨X, hX⟩ : ∃ X, X = zd zs e := ⟨_, rfl⟩
        rw [← hX] at hcz hst
        have HST := Lib.hid hst
        clear hst hX hcell
        by_cases hbad : X < 0 ∨ (n : Int) ≤ X
        · have hin : inB X n = false := by unfold inB; simp; omega
          have HQ : Hid (mkspec n zs = .err 62) := by unfold Hid; rw [HST.out, if_pos hbad]
          clear hbad
          go_wp2_with (go_at_call 35; refine (within_any n X _ _).mono ?_; rintro x w3 ⟨rfl, hb3⟩; have hby3 := (hb3.block _ hgy).trans hby; obtain ⟨p0', p1', f0', f1', hgy'⟩ := blk2 hby3)
          refine bodyPost_ret (res_ct rfl _ _ w.heap.size 24 #[.int .i64 0, .slice none 0 0] (0, 0) _ rfl (hs_same (hs_same hby3 0 _) 1 _) Try.underlying24 rfl (by kernel_rfl)) rfl ?_
          rw [HQ.out]
          exact ⟨bl_s (bl_s (bl_t hblw hb3) (by simp) _) (by simp) _, rfl⟩
        · obtain ⟨x, rfl⟩ : ∃ x : Nat, X = x := ⟨X.toNat, by omega⟩
          have hxn : x < n := by omega
          have hin : inB x n = true := by unfold inB; simp; omega
          have HQ : Hid (mkspec n zs = mkgo n (zs.drop (e + 1)) (fun y => f y || decide (y = x))) := by
            unfold Hid
            rw [HST.out, if_neg hbad]
            rfl
          clear hbad
          go_wp2_with fail
          refine (within_any n x _ _).mono ?_
          rintro y w3 ⟨rfl, hb3⟩
          have hR3 := hR.below hb3
          clear s0 s1 t0 t1 hgs p0 p1 f0 f1 hgy
          obtain ⟨s0, s1, t0, t1, hgs⟩ := blk2 hR3.bs
          have hput := put_any n g (nw n) x vs w3 hR3.row (by rw [hR3.set.len, nw_eq]; omega) (by rw [hR3.set.len, nw_eq]; omega) hR3.set.lt
          rw [hR3.set.len] at hput
          go_wp2_with fail
          refine hput.mono ?_
          rintro y w5 ⟨rfl, hw5, hg5⟩
          clear s0 s1 t0 t1 hgs hput
          go_wp2
          go_roundw
          case rel =>
            exact ⟨e + 1, _, setb vs x, by go_num, ⟨by omega, HQ.out, hR3.set.put hxn, hw5, blk_grown hR3.bs hg5 (by intro h; injection h with h; exact hR.ne h), hR3.hgs, hR3.hg, hR3.ne, bl_g hR3.b1 hg5 hR.hg⟩⟩
          case measure => simp [intOf]; omega
      · have HQ : Hid (mkspec n zs = .set n f) := by unfold Hid; rw [hR.an, mkgo_end (by omega)]
        go_wp2
        refine bodyPost_ret (res_ct rfl _ _ w.heap.size 24 #[.int .i64 n, .slice (some ⟨g, 0, none⟩) (nw n) (nw n)] (0, 0) _ rfl (hs_same (hs_same hby 0 _) 1 _) Try.underlying24 rfl (by kernel_rfl)) rfl ?_
        rw [HQ.out]
        have hgg := hR.hg
        exact ⟨bl_s (bl_s hblw (by simp) _) (by simp) _, g, vs, by rw [hR.set.len]; rfl, by omega, (hR.row.other (by simp; omega) _).other (by simp; omega) _, hR.set⟩
end Go.Proofs.Ytlmjfcieiengcaa
