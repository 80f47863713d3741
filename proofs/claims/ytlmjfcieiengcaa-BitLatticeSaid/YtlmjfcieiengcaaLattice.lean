/- slopelaw3.BitLattice returns true. The lengths are ones that slices can have. -/
import Derived.Test.YtlmjfcieiengcaaLat
namespace Go.Proofs.Ytlmjfcieiengcaa
open Go.RowKit
theorem mkerr {k : Nat} : ∀ {n : Nat} {zs : List Int} {f : Nat → Bool}, mkgo n zs f = .err k → k = 62 := by
  intro n zs
  induction zs with
  | nil => intro f h; cases h
  | cons x l ih =>
    intro f h
    rw [mkgo] at h
    split at h
    · injection h with h; exact h.symm
    · exact ih h
theorem mksize {n m : Nat} {g : Nat → Bool} : ∀ {zs : List Int} {f : Nat → Bool}, mkgo n zs f = .set m g → m = n := by
  intro zs
  induction zs with
  | nil => intro f h; injection h with h _; exact h.symm
  | cons x l ih =>
    intro f h
    rw [mkgo] at h
    split at h
    · cases h
    · exact ih h
set_option maxRecDepth 100000 in
set_option maxHeartbeats 4000000 in
theorem lattice_size (size : Int) (B1 B2 B3 : Option Addr) (d1 d2 d3 : Nat) (z1 z2 z3 : List Int) (w : World) (hz1 : RdI w B1 z1) (hz2 : RdI w B2 z2) (hz3 : RdI w B3 z3) (hl1 : z1.length ≤ 9223372036854775807) (hl2 : z2.length ≤ 9223372036854775807) (hl3 : z3.length ≤ 9223372036854775807) (hs : szB size = false) :
    Calls Try.prog 6 #[.int .i64 size, .slice B1 z1.length d1, .slice B2 z2.length d2, .slice B3 z3.length d3] w fun x w' => x = .returned (.bool true) ∧ Below w.heap.size w w' := by
  have HM1 := Lib.hid (fun W hW => make_any size B1 d1 z1 W hW hl1)
  rw [show mkspec size z1 = .err 60 from by unfold mkspec; rw [if_pos hs]] at HM1
  have HM2 := Lib.hid (fun W hW => make_any size B2 d2 z2 W hW hl2)
  have HM3 := Lib.hid (fun W hW => make_any size B3 d3 z3 W hW hl3)
  have hsz : size < 0 ∨ (0 ≤ size ∧ 4096 < size) := by unfold szB at hs; simp at hs; omega
  clear hs
  rcases hsz with hs | ⟨hs1, hs2⟩
  · skip
    go_enter Try.func6, Try.ntmps6
    go_wp2_with fail
    refine (alive_any _).mono ?_
    rintro x w1 ⟨rfl, hb1⟩
    go_wp2_with fail
    refine (HM1.out _ (hz1.below hb1)).mono ?_
    intro x w2 hp1
    obtain ⟨s1, e1, rfl, hs1, hb2⟩ := hp1.sap.out
    obtain ⟨rfl, rfl⟩ := hs1
    have hc2 := bl_a (bl_t hb1 hb2) (.cells #[.int .i64 0, .slice none 0 0] 24)
    clear hp1
    go_wp2_with fail
    refine (HM2.out _ (hz2.below hc2)).mono ?_
    intro x w3 hp2
    obtain ⟨s2, e2, rfl, hs2, hb3⟩ := hp2.sap.out
    have hc3 := bl_a (bl_t hc2 hb3) (.cells #[.int .i64 s2.sz, .slice s2.A s2.ws.length s2.c] 24)
    clear hp2
    go_wp2_with fail
    refine (HM3.out _ (hz3.below hc3)).mono ?_
    intro x w4 hp3
    obtain ⟨s3, e3, rfl, hs3, hb4⟩ := hp3.sap.out
    have hc4 := bl_a (bl_t hc3 hb4) (.cells #[.int .i64 s3.sz, .slice s3.A s3.ws.length s3.c] 24)
    clear hp3
    go_wp2_with (go_at_call 10; refine (num_any _ _).mono ?_; rintro e' w' ⟨rfl, rfl⟩)
    go_ret
    exact ⟨rfl, hc4⟩
  · skip
    go_enter Try.func6, Try.ntmps6
    go_wp2_with fail
    refine (alive_any _).mono ?_
    rintro x w1 ⟨rfl, hb1⟩
    go_wp2_with fail
    refine (HM1.out _ (hz1.below hb1)).mono ?_
    intro x w2 hp1
    obtain ⟨s1, e1, rfl, hs1, hb2⟩ := hp1.sap.out
    obtain ⟨rfl, rfl⟩ := hs1
    have hc2 := bl_a (bl_t hb1 hb2) (.cells #[.int .i64 0, .slice none 0 0] 24)
    clear hp1
    go_wp2_with fail
    refine (HM2.out _ (hz2.below hc2)).mono ?_
    intro x w3 hp2
    obtain ⟨s2, e2, rfl, hs2, hb3⟩ := hp2.sap.out
    have hc3 := bl_a (bl_t hc2 hb3) (.cells #[.int .i64 s2.sz, .slice s2.A s2.ws.length s2.c] 24)
    clear hp2
    go_wp2_with fail
    refine (HM3.out _ (hz3.below hc3)).mono ?_
    intro x w4 hp3
    obtain ⟨s3, e3, rfl, hs3, hb4⟩ := hp3.sap.out
    have hc4 := bl_a (bl_t hc3 hb4) (.cells #[.int .i64 s3.sz, .slice s3.A s3.ws.length s3.c] 24)
    clear hp3
    go_wp2_with (go_at_call 10; refine (num_any _ _).mono ?_; rintro e' w' ⟨rfl, rfl⟩)
    go_ret
    exact ⟨rfl, hc4⟩
set_option maxRecDepth 100000 in
set_option maxHeartbeats 4000000 in
theorem lattice_err1 (n : Nat) (B1 B2 B3 : Option Addr) (d1 d2 d3 : Nat) (z1 z2 z3 : List Int) (w : World) (hz1 : RdI w B1 z1) (hz2 : RdI w B2 z2) (hz3 : RdI w B3 z3) (hl1 : z1.length ≤ 9223372036854775807) (hl2 : z2.length ≤ 9223372036854775807) (hl3 : z3.length ≤ 9223372036854775807) (hn : n ≤ 4096) (k : Nat) (hk1 : mkspec n z1 = .err k) (hk0 : ((k : Int) != 0) = true) :
    Calls Try.prog 6 #[.int .i64 n, .slice B1 z1.length d1, .slice B2 z2.length d2, .slice B3 z3.length d3] w fun x w' => x = .returned (.bool true) ∧ Below w.heap.size w w' := by
  have HM1 := Lib.hid (fun W hW => make_any n B1 d1 z1 W hW hl1)
  rw [hk1] at HM1
  have HM2 := Lib.hid (fun W hW => make_any n B2 d2 z2 W hW hl2)
  have HM3 := Lib.hid (fun W hW => make_any n B3 d3 z3 W hW hl3)
  clear hk1
  go_enter Try.func6, Try.ntmps6
  go_wp2_with fail
  refine (alive_any _).mono ?_
  rintro x w1 ⟨rfl, hb1⟩
  go_wp2_with fail
  refine (HM1.out _ (hz1.below hb1)).mono ?_
  intro x w2 hp1
  obtain ⟨s1, e1, rfl, hs1, hb2⟩ := hp1.sap.out
  obtain ⟨rfl, rfl⟩ := hs1
  have hc2 := bl_a (bl_t hb1 hb2) (.cells #[.int .i64 0, .slice none 0 0] 24)
  clear hp1
  go_wp2_with fail
  refine (HM2.out _ (hz2.below hc2)).mono ?_
  intro x w3 hp2
  obtain ⟨s2, e2, rfl, hs2, hb3⟩ := hp2.sap.out
  have hc3 := bl_a (bl_t hc2 hb3) (.cells #[.int .i64 s2.sz, .slice s2.A s2.ws.length s2.c] 24)
  clear hp2
  go_wp2_with fail
  refine (HM3.out _ (hz3.below hc3)).mono ?_
  intro x w4 hp3
  obtain ⟨s3, e3, rfl, hs3, hb4⟩ := hp3.sap.out
  have hc4 := bl_a (bl_t hc3 hb4) (.cells #[.int .i64 s3.sz, .slice s3.A s3.ws.length s3.c] 24)
  clear hp3
  go_wp2_with (go_at_call 10; refine (num_any _ _).mono ?_; rintro e' w' ⟨rfl, rfl⟩)
  go_ret
  exact ⟨rfl, hc4⟩
set_option maxRecDepth 100000 in
set_option maxHeartbeats 4000000 in
theorem lattice_err2 (n : Nat) (B1 B2 B3 : Option Addr) (d1 d2 d3 : Nat) (z1 z2 z3 : List Int) (w : World) (hz1 : RdI w B1 z1) (hz2 : RdI w B2 z2) (hz3 : RdI w B3 z3) (hl1 : z1.length ≤ 9223372036854775807) (hl2 : z2.length ≤ 9223372036854775807) (hl3 : z3.length ≤ 9223372036854775807) (hn : n ≤ 4096) (n1 : Nat) (f1 : Nat → Bool) (hk1 : mkspec n z1 = .set n1 f1) (k : Nat) (hk2 : mkspec n z2 = .err k) (hk0 : ((k : Int) != 0) = true) :
    Calls Try.prog 6 #[.int .i64 n, .slice B1 z1.length d1, .slice B2 z2.length d2, .slice B3 z3.length d3] w fun x w' => x = .returned (.bool true) ∧ Below w.heap.size w w' := by
  have HM1 := Lib.hid (fun W hW => make_any n B1 d1 z1 W hW hl1)
  rw [hk1] at HM1
  have HM2 := Lib.hid (fun W hW => make_any n B2 d2 z2 W hW hl2)
  rw [hk2] at HM2
  have HM3 := Lib.hid (fun W hW => make_any n B3 d3 z3 W hW hl3)
  clear hk1 hk2
  go_enter Try.func6, Try.ntmps6
  go_wp2_with fail
  refine (alive_any _).mono ?_
  rintro x w1 ⟨rfl, hb1⟩
  go_wp2_with fail
  refine (HM1.out _ (hz1.below hb1)).mono ?_
  intro x w2 hp1
  obtain ⟨s1, e1, rfl, hs1, hb2⟩ := hp1.sap.out
  obtain ⟨hq, hO, hW, rfl⟩ := hs1
  clear hq hO hW
  have hc2 := bl_a (bl_t hb1 hb2) (.cells #[.int .i64 s1.sz, .slice s1.A s1.ws.length s1.c] 24)
  clear hp1
  go_wp2_with fail
  refine (HM2.out _ (hz2.below hc2)).mono ?_
  intro x w3 hp2
  obtain ⟨s2, e2, rfl, hs2, hb3⟩ := hp2.sap.out
  obtain ⟨rfl, rfl⟩ := hs2
  have hc3 := bl_a (bl_t hc2 hb3) (.cells #[.int .i64 0, .slice none 0 0] 24)
  clear hp2
  go_wp2_with fail
  refine (HM3.out _ (hz3.below hc3)).mono ?_
  intro x w4 hp3
  obtain ⟨s3, e3, rfl, hs3, hb4⟩ := hp3.sap.out
  have hc4 := bl_a (bl_t hc3 hb4) (.cells #[.int .i64 s3.sz, .slice s3.A s3.ws.length s3.c] 24)
  clear hp3
  go_wp2_with (go_at_call 10; refine (num_any _ _).mono ?_; rintro e' w' ⟨rfl, rfl⟩)
  go_ret
  exact ⟨rfl, hc4⟩
set_option maxRecDepth 100000 in
set_option maxHeartbeats 4000000 in
theorem lattice_err3 (n : Nat) (B1 B2 B3 : Option Addr) (d1 d2 d3 : Nat) (z1 z2 z3 : List Int) (w : World) (hz1 : RdI w B1 z1) (hz2 : RdI w B2 z2) (hz3 : RdI w B3 z3) (hl1 : z1.length ≤ 9223372036854775807) (hl2 : z2.length ≤ 9223372036854775807) (hl3 : z3.length ≤ 9223372036854775807) (hn : n ≤ 4096) (n1 : Nat) (f1 : Nat → Bool) (hk1 : mkspec n z1 = .set n1 f1) (n2 : Nat) (f2 : Nat → Bool) (hk2 : mkspec n z2 = .set n2 f2) (k : Nat) (hk3 : mkspec n z3 = .err k) (hk0 : ((k : Int) != 0) = true) :
    Calls Try.prog 6 #[.int .i64 n, .slice B1 z1.length d1, .slice B2 z2.length d2, .slice B3 z3.length d3] w fun x w' => x = .returned (.bool true) ∧ Below w.heap.size w w' := by
  have HM1 := Lib.hid (fun W hW => make_any n B1 d1 z1 W hW hl1)
  rw [hk1] at HM1
  have HM2 := Lib.hid (fun W hW => make_any n B2 d2 z2 W hW hl2)
  rw [hk2] at HM2
  have HM3 := Lib.hid (fun W hW => make_any n B3 d3 z3 W hW hl3)
  rw [hk3] at HM3
  clear hk1 hk2 hk3
  go_enter Try.func6, Try.ntmps6
  go_wp2_with fail
  refine (alive_any _).mono ?_
  rintro x w1 ⟨rfl, hb1⟩
  go_wp2_with fail
  refine (HM1.out _ (hz1.below hb1)).mono ?_
  intro x w2 hp1
  obtain ⟨s1, e1, rfl, hs1, hb2⟩ := hp1.sap.out
  obtain ⟨hq, hO, hW, rfl⟩ := hs1
  clear hq hO hW
  have hc2 := bl_a (bl_t hb1 hb2) (.cells #[.int .i64 s1.sz, .slice s1.A s1.ws.length s1.c] 24)
  clear hp1
  go_wp2_with fail
  refine (HM2.out _ (hz2.below hc2)).mono ?_
  intro x w3 hp2
  obtain ⟨s2, e2, rfl, hs2, hb3⟩ := hp2.sap.out
  obtain ⟨hq, hO, hW, rfl⟩ := hs2
  clear hq hO hW
  have hc3 := bl_a (bl_t hc2 hb3) (.cells #[.int .i64 s2.sz, .slice s2.A s2.ws.length s2.c] 24)
  clear hp2
  go_wp2_with fail
  refine (HM3.out _ (hz3.below hc3)).mono ?_
  intro x w4 hp3
  obtain ⟨s3, e3, rfl, hs3, hb4⟩ := hp3.sap.out
  obtain ⟨rfl, rfl⟩ := hs3
  have hc4 := bl_a (bl_t hc3 hb4) (.cells #[.int .i64 0, .slice none 0 0] 24)
  clear hp3
  go_wp2_with (go_at_call 10; refine (num_any _ _).mono ?_; rintro e' w' ⟨rfl, rfl⟩)
  go_ret
  exact ⟨rfl, hc4⟩
set_option maxRecDepth 100000 in
set_option maxHeartbeats 40000000 in
theorem lattice_main (n : Nat) (B1 B2 B3 : Option Addr) (d1 d2 d3 : Nat) (z1 z2 z3 : List Int) (w : World) (hz1 : RdI w B1 z1) (hz2 : RdI w B2 z2) (hz3 : RdI w B3 z3) (hl1 : z1.length ≤ 9223372036854775807) (hl2 : z2.length ≤ 9223372036854775807) (hl3 : z3.length ≤ 9223372036854775807) (hn : n ≤ 4096) (g1 g2 g3 : Nat → Bool) (hk1 : mkspec n z1 = .set n g1) (hk2 : mkspec n z2 = .set n g2) (hk3 : mkspec n z3 = .set n g3) :
    Calls Try.prog 6 #[.int .i64 n, .slice B1 z1.length d1, .slice B2 z2.length d2, .slice B3 z3.length d3] w fun x w' => x = .returned (.bool true) ∧ Below w.heap.size w w' := by
  have HM1 := Lib.hid (fun W hW => (make_any n B1 d1 z1 W hW hl1).mono fun _ _ h => make_fit (f := g1) hn rfl (by rw [hk1] at h; exact h))
  have HM2 := Lib.hid (fun W hW => (make_any n B2 d2 z2 W hW hl2).mono fun _ _ h => make_fit (f := g2) hn rfl (by rw [hk2] at h; exact h))
  have HM3 := Lib.hid (fun W hW => (make_any n B3 d3 z3 W hW hl3).mono fun _ _ h => make_fit (f := g3) hn rfl (by rw [hk3] at h; exact h))
  clear hk1 hk2 hk3
  go_enter Try.func6, Try.ntmps6
  go_wp2_with fail
  refine (alive_any _).mono ?_
  rintro x w0 ⟨rfl, hb0⟩
  have EV0 := Lib.hid (Env.nil hb0)
  clear hb0
  go_wp2_with fail
  refine (HM1.out _ (hz1.below EV0.out.bl)).mono ?_
  rintro x w1 ⟨a, rfl, ha, ra, ma, hb1⟩
  have EVa1 := Lib.hid (EV0.out.step hb1)
  have EVb1 := Lib.hid (EVa1.out.box a ra)
  have Ha := Lib.hid (And.intro ha ma)
  clear ha ra ma hb1
  go_wp2_with fail
  refine (HM2.out _ (hz2.below EVb1.out.bl)).mono ?_
  rintro x w2 ⟨b, rfl, hb, rb, mb, hb2⟩
  have EVa2 := Lib.hid (EVb1.out.step hb2)
  have EVb2 := Lib.hid (EVa2.out.box b rb)
  have Hb := Lib.hid (And.intro hb mb)
  clear hb rb mb hb2
  go_wp2_with fail
  refine (HM3.out _ (hz3.below EVb2.out.bl)).mono ?_
  rintro x w3 ⟨c, rfl, hc, rc, mc, hb3⟩
  have EVa3 := Lib.hid (EVb2.out.step hb3)
  have EVb3 := Lib.hid (EVa3.out.box c rc)
  have Hc := Lib.hid (And.intro hc mc)
  clear hc rc mc hb3
  have hnn : ¬ ((n : Int) < 0) := by omega
  obtain ⟨pa0, pb0, fa0, fb0, hg0⟩ := blk2 (EVa3.out.all _ (.tail _ (.head _))).1
  obtain ⟨pa1, pb1, fa1, fb1, hg1⟩ := blk2 (EVa3.out.all _ (.head _)).1
  go_wp2_with (go_at_call 10; refine (num_any _ _).mono ?_; rintro e' w' ⟨rfl, rfl⟩)
  refine (union_fit n a b _ Ha.out.1 Hb.out.1 (EVb3.out.all _ (.tail _ (.tail _ (.head _)))).2 (EVb3.out.all _ (.tail _ (.head _))).2 hn).mono ?_
  rintro x w4 ⟨ab, rfl, hab, rab, mab, hb4⟩
  have EVa4 := Lib.hid (EVb3.out.step hb4)
  have EVb4 := Lib.hid (EVa4.out.box ab rab)
  have Hab := Lib.hid (And.intro hab mab)
  clear hab rab mab hb4
  clear pa0 pb0 fa0 fb0 hg0 pa1 pb1 fa1 fb1 hg1
  obtain ⟨pa0, pb0, fa0, fb0, hg0⟩ := blk2 (EVa4.out.all _ (.tail _ (.head _))).1
  obtain ⟨pa1, pb1, fa1, fb1, hg1⟩ := blk2 (EVa4.out.all _ (.tail _ (.tail _ (.head _)))).1
  go_wp2_with fail
  refine (union_fit n b a _ Hb.out.1 Ha.out.1 (EVb4.out.all _ (.tail _ (.tail _ (.head _)))).2 (EVb4.out.all _ (.tail _ (.tail _ (.tail _ (.head _))))).2 hn).mono ?_
  rintro x w5 ⟨ba, rfl, hba, rba, mba, hb5⟩
  have EVa5 := Lib.hid (EVb4.out.step hb5)
  have EVb5 := Lib.hid (EVa5.out.box ba rba)
  have Hba := Lib.hid (And.intro hba mba)
  clear hba rba mba hb5
  clear pa0 pb0 fa0 fb0 hg0 pa1 pb1 fa1 fb1 hg1
  obtain ⟨pa0, pb0, fa0, fb0, hg0⟩ := blk2 (EVa5.out.all _ (.tail _ (.tail _ (.head _)))).1
  obtain ⟨pa1, pb1, fa1, fb1, hg1⟩ := blk2 (EVa5.out.all _ (.tail _ (.head _))).1
  go_wp2_with fail
  refine (union_fit n b c _ Hb.out.1 Hc.out.1 (EVb5.out.all _ (.tail _ (.tail _ (.tail _ (.head _))))).2 (EVb5.out.all _ (.tail _ (.tail _ (.head _)))).2 hn).mono ?_
  rintro x w6 ⟨bc, rfl, hbc, rbc, mbc, hb6⟩
  have EVa6 := Lib.hid (EVb5.out.step hb6)
  have EVb6 := Lib.hid (EVa6.out.box bc rbc)
  have Hbc := Lib.hid (And.intro hbc mbc)
  clear hbc rbc mbc hb6
  clear pa0 pb0 fa0 fb0 hg0 pa1 pb1 fa1 fb1 hg1
  obtain ⟨pa0, pb0, fa0, fb0, hg0⟩ := blk2 (EVa6.out.all _ (.tail _ (.head _))).1
  obtain ⟨pa1, pb1, fa1, fb1, hg1⟩ := blk2 (EVa6.out.all _ (.tail _ (.tail _ (.head _)))).1
  go_wp2_with fail
  refine (union_fit n ab c _ Hab.out.1 Hc.out.1 (EVb6.out.all _ (.tail _ (.tail _ (.head _)))).2 (EVb6.out.all _ (.tail _ (.tail _ (.tail _ (.head _))))).2 hn).mono ?_
  rintro x w7 ⟨left, rfl, hleft, rleft, mleft, hb7⟩
  have EVa7 := Lib.hid (EVb6.out.step hb7)
  have EVb7 := Lib.hid (EVa7.out.box left rleft)
  have Hleft := Lib.hid (And.intro hleft mleft)
  clear hleft rleft mleft hb7
  clear pa0 pb0 fa0 fb0 hg0 pa1 pb1 fa1 fb1 hg1
  obtain ⟨pa0, pb0, fa0, fb0, hg0⟩ := blk2 (EVa7.out.all _ (.tail _ (.tail _ (.tail _ (.tail _ (.tail _ (.head _))))))).1
  obtain ⟨pa1, pb1, fa1, fb1, hg1⟩ := blk2 (EVa7.out.all _ (.head _)).1
  go_wp2_with fail
  refine (union_fit n a bc _ Ha.out.1 Hbc.out.1 (EVb7.out.all _ (.tail _ (.tail _ (.tail _ (.tail _ (.tail _ (.tail _ (.head _)))))))).2 (EVb7.out.all _ (.tail _ (.head _))).2 hn).mono ?_
  rintro x w8 ⟨right, rfl, hright, rright, mright, hb8⟩
  have EVa8 := Lib.hid (EVb7.out.step hb8)
  have EVb8 := Lib.hid (EVa8.out.box right rright)
  have Hright := Lib.hid (And.intro hright mright)
  clear hright rright mright hb8
  clear pa0 pb0 fa0 fb0 hg0 pa1 pb1 fa1 fb1 hg1
  obtain ⟨pa0, pb0, fa0, fb0, hg0⟩ := blk2 (EVa8.out.all _ (.tail _ (.tail _ (.tail _ (.tail _ (.tail _ (.tail _ (.head _)))))))).1
  obtain ⟨pa1, pb1, fa1, fb1, hg1⟩ := blk2 (EVa8.out.all _ (.tail _ (.tail _ (.tail _ (.tail _ (.tail _ (.head _))))))).1
  obtain ⟨pa2, pb2, fa2, fb2, hg2⟩ := blk2 (EVa8.out.all _ (.tail _ (.tail _ (.tail _ (.tail _ (.head _)))))).1
  go_wp2_with fail
  refine (union3_fit n a b c _ _ (by simp) Ha.out.1 Hb.out.1 Hc.out.1 (EVb8.out.all _ (.tail _ (.tail _ (.tail _ (.tail _ (.tail _ (.tail _ (.tail _ (.head _))))))))).2 (EVb8.out.all _ (.tail _ (.tail _ (.tail _ (.tail _ (.tail _ (.tail _ (.head _)))))))).2 (EVb8.out.all _ (.tail _ (.tail _ (.tail _ (.tail _ (.tail _ (.head _))))))).2 hn).mono ?_
  rintro x w9 ⟨alls, rfl, halls, ralls, malls, hb9⟩
  have EVa9 := Lib.hid (EVb8.out.step hb9)
  have EVb9 := Lib.hid (EVa9.out.box alls ralls)
  have Halls := Lib.hid (And.intro halls malls)
  clear halls ralls malls hb9
  clear pa0 pb0 fa0 fb0 hg0 pa1 pb1 fa1 fb1 hg1 pa2 pb2 fa2 fb2 hg2
  obtain ⟨pa0, pb0, fa0, fb0, hg0⟩ := blk2 (EVa9.out.all _ (.tail _ (.tail _ (.tail _ (.tail _ (.tail _ (.tail _ (.tail _ (.head _))))))))).1
  obtain ⟨pa1, pb1, fa1, fb1, hg1⟩ := blk2 (EVa9.out.all _ (.tail _ (.tail _ (.tail _ (.tail _ (.tail _ (.tail _ (.head _)))))))).1
  go_wp2_with fail
  refine (inter_fit n a b _ Ha.out.1 Hb.out.1 (EVb9.out.all _ (.tail _ (.tail _ (.tail _ (.tail _ (.tail _ (.tail _ (.tail _ (.tail _ (.head _)))))))))).2 (EVb9.out.all _ (.tail _ (.tail _ (.tail _ (.tail _ (.tail _ (.tail _ (.tail _ (.head _))))))))).2 hn).mono ?_
  rintro x w10 ⟨ib, rfl, hib, rib, mib, hb10⟩
  have EVa10 := Lib.hid (EVb9.out.step hb10)
  have EVb10 := Lib.hid (EVa10.out.box ib rib)
  have Hib := Lib.hid (And.intro hib mib)
  clear hib rib mib hb10
  clear pa0 pb0 fa0 fb0 hg0 pa1 pb1 fa1 fb1 hg1
  obtain ⟨pa0, pb0, fa0, fb0, hg0⟩ := blk2 (EVa10.out.all _ (.tail _ (.tail _ (.tail _ (.tail _ (.tail _ (.tail _ (.tail _ (.tail _ (.head _)))))))))).1
  obtain ⟨pa1, pb1, fa1, fb1, hg1⟩ := blk2 (EVa10.out.all _ (.tail _ (.tail _ (.tail _ (.tail _ (.tail _ (.tail _ (.head _)))))))).1
  go_wp2_with fail
  refine (inter_fit n a c _ Ha.out.1 Hc.out.1 (EVb10.out.all _ (.tail _ (.tail _ (.tail _ (.tail _ (.tail _ (.tail _ (.tail _ (.tail _ (.tail _ (.head _))))))))))).2 (EVb10.out.all _ (.tail _ (.tail _ (.tail _ (.tail _ (.tail _ (.tail _ (.tail _ (.head _))))))))).2 hn).mono ?_
  rintro x w11 ⟨ic, rfl, hic, ric, mic, hb11⟩
  have EVa11 := Lib.hid (EVb10.out.step hb11)
  have EVb11 := Lib.hid (EVa11.out.box ic ric)
  have Hic := Lib.hid (And.intro hic mic)
  clear hic ric mic hb11
  clear pa0 pb0 fa0 fb0 hg0 pa1 pb1 fa1 fb1 hg1
  obtain ⟨pa0, pb0, fa0, fb0, hg0⟩ := blk2 (EVa11.out.all _ (.tail _ (.tail _ (.tail _ (.tail _ (.tail _ (.tail _ (.tail _ (.tail _ (.tail _ (.head _))))))))))).1
  obtain ⟨pa1, pb1, fa1, fb1, hg1⟩ := blk2 (EVa11.out.all _ (.tail _ (.tail _ (.tail _ (.tail _ (.head _)))))).1
  go_wp2_with fail
  refine (inter_fit n a bc _ Ha.out.1 Hbc.out.1 (EVb11.out.all _ (.tail _ (.tail _ (.tail _ (.tail _ (.tail _ (.tail _ (.tail _ (.tail _ (.tail _ (.tail _ (.head _)))))))))))).2 (EVb11.out.all _ (.tail _ (.tail _ (.tail _ (.tail _ (.tail _ (.head _))))))).2 hn).mono ?_
  rintro x w12 ⟨over, rfl, hover, rover, mover, hb12⟩
  have EVa12 := Lib.hid (EVb11.out.step hb12)
  have EVb12 := Lib.hid (EVa12.out.box over rover)
  have Hover := Lib.hid (And.intro hover mover)
  clear hover rover mover hb12
  clear pa0 pb0 fa0 fb0 hg0 pa1 pb1 fa1 fb1 hg1
  obtain ⟨pa0, pb0, fa0, fb0, hg0⟩ := blk2 (EVa12.out.all _ (.tail _ (.head _))).1
  obtain ⟨pa1, pb1, fa1, fb1, hg1⟩ := blk2 (EVa12.out.all _ (.head _)).1
  go_wp2_with fail
  refine (union_fit n ib ic _ Hib.out.1 Hic.out.1 (EVb12.out.all _ (.tail _ (.tail _ (.head _)))).2 (EVb12.out.all _ (.tail _ (.head _))).2 hn).mono ?_
  rintro x w13 ⟨sum, rfl, hsum, rsum, msum, hb13⟩
  have EVa13 := Lib.hid (EVb12.out.step hb13)
  have EVb13 := Lib.hid (EVa13.out.box sum rsum)
  have Hsum := Lib.hid (And.intro hsum msum)
  clear hsum rsum msum hb13
  clear pa0 pb0 fa0 fb0 hg0 pa1 pb1 fa1 fb1 hg1
  obtain ⟨pa0, pb0, fa0, fb0, hg0⟩ := blk2 (EVa13.out.all _ (.tail _ (.tail _ (.tail _ (.tail _ (.tail _ (.tail _ (.tail _ (.tail _ (.head _)))))))))).1
  obtain ⟨pa1, pb1, fa1, fb1, hg1⟩ := blk2 (EVa13.out.all _ (.tail _ (.tail _ (.tail _ (.tail _ (.tail _ (.tail _ (.tail _ (.head _))))))))).1
  go_wp2_with (go_at_call 10; refine (num_any _ _).mono ?_; rintro e' w' ⟨rfl, rfl⟩)
  refine (sames_fit n ab ba _ Hab.out.1 Hba.out.1 (EVb13.out.all _ (.tail _ (.tail _ (.tail _ (.tail _ (.tail _ (.tail _ (.tail _ (.tail _ (.tail _ (.head _))))))))))).2 (EVb13.out.all _ (.tail _ (.tail _ (.tail _ (.tail _ (.tail _ (.tail _ (.tail _ (.tail _ (.head _)))))))))).2 (fun e he => by rw [Hab.out.2 e he, Hba.out.2 e he]; cases mem a.ws e <;> cases mem b.ws e <;> rfl)).mono ?_
  rintro x w14 ⟨rfl, hb14⟩
  have EVa14 := Lib.hid (EVb13.out.step hb14)
  clear hb14
  clear pa0 pb0 fa0 fb0 hg0 pa1 pb1 fa1 fb1 hg1
  obtain ⟨pa0, pb0, fa0, fb0, hg0⟩ := blk2 (EVa14.out.all _ (.tail _ (.tail _ (.tail _ (.tail _ (.tail _ (.tail _ (.head _)))))))).1
  obtain ⟨pa1, pb1, fa1, fb1, hg1⟩ := blk2 (EVa14.out.all _ (.tail _ (.tail _ (.tail _ (.tail _ (.tail _ (.head _))))))).1
  go_wp2_with fail
  refine (sames_fit n left right _ Hleft.out.1 Hright.out.1 (EVa14.out.all _ (.tail _ (.tail _ (.tail _ (.tail _ (.tail _ (.tail _ (.head _)))))))).2 (EVa14.out.all _ (.tail _ (.tail _ (.tail _ (.tail _ (.tail _ (.head _))))))).2 (fun e he => by rw [Hleft.out.2 e he, Hright.out.2 e he, Hab.out.2 e he, Hbc.out.2 e he]; cases mem a.ws e <;> cases mem b.ws e <;> cases mem c.ws e <;> rfl)).mono ?_
  rintro x w15 ⟨rfl, hb15⟩
  have EVa15 := Lib.hid (EVa14.out.step hb15)
  clear hb15
  clear pa0 pb0 fa0 fb0 hg0 pa1 pb1 fa1 fb1 hg1
  obtain ⟨pa0, pb0, fa0, fb0, hg0⟩ := blk2 (EVa15.out.all _ (.tail _ (.tail _ (.tail _ (.tail _ (.tail _ (.tail _ (.head _)))))))).1
  obtain ⟨pa1, pb1, fa1, fb1, hg1⟩ := blk2 (EVa15.out.all _ (.tail _ (.tail _ (.tail _ (.tail _ (.head _)))))).1
  go_wp2_with fail
  refine (sames_fit n left alls _ Hleft.out.1 Halls.out.1 (EVa15.out.all _ (.tail _ (.tail _ (.tail _ (.tail _ (.tail _ (.tail _ (.head _)))))))).2 (EVa15.out.all _ (.tail _ (.tail _ (.tail _ (.tail _ (.head _)))))).2 (fun e he => by rw [Hleft.out.2 e he, Halls.out.2 e he, Hab.out.2 e he])).mono ?_
  rintro x w16 ⟨rfl, hb16⟩
  have EVa16 := Lib.hid (EVa15.out.step hb16)
  clear hb16
  clear pa0 pb0 fa0 fb0 hg0 pa1 pb1 fa1 fb1 hg1
  obtain ⟨pa0, pb0, fa0, fb0, hg0⟩ := blk2 (EVa16.out.all _ (.tail _ (.head _))).1
  obtain ⟨pa1, pb1, fa1, fb1, hg1⟩ := blk2 (EVa16.out.all _ (.head _)).1
  go_wp2_with fail
  refine (sames_fit n over sum _ Hover.out.1 Hsum.out.1 (EVa16.out.all _ (.tail _ (.head _))).2 (EVa16.out.all _ (.head _)).2 (fun e he => by rw [Hover.out.2 e he, Hsum.out.2 e he, Hib.out.2 e he, Hic.out.2 e he, Hbc.out.2 e he]; cases mem a.ws e <;> cases mem b.ws e <;> cases mem c.ws e <;> rfl)).mono ?_
  rintro x w17 ⟨rfl, hb17⟩
  have EVa17 := Lib.hid (EVa16.out.step hb17)
  clear hb17
  clear pa0 pb0 fa0 fb0 hg0 pa1 pb1 fa1 fb1 hg1
  obtain ⟨pa0, pb0, fa0, fb0, hg0⟩ := blk2 (EVa17.out.all _ (.tail _ (.head _))).1
  obtain ⟨pa1, pb1, fa1, fb1, hg1⟩ := blk2 (EVa17.out.all _ (.head _)).1
  go_wp2_with fail
  refine (equal_fit n over sum _ Hover.out.1 Hsum.out.1 (EVa17.out.all _ (.tail _ (.head _))).2 (EVa17.out.all _ (.head _)).2 hn (fun e he => by rw [Hover.out.2 e he, Hsum.out.2 e he, Hib.out.2 e he, Hic.out.2 e he, Hbc.out.2 e he]; cases mem a.ws e <;> cases mem b.ws e <;> cases mem c.ws e <;> rfl)).mono ?_
  rintro x w18 ⟨rfl, hb18⟩
  have EVa18 := Lib.hid (EVa17.out.step hb18)
  clear hb18
  clear pa0 pb0 fa0 fb0 hg0 pa1 pb1 fa1 fb1 hg1
  obtain ⟨pa0, pb0, fa0, fb0, hg0⟩ := blk2 (EVa18.out.all _ (.tail _ (.tail _ (.tail _ (.head _))))).1
  obtain ⟨pa1, pb1, fa1, fb1, hg1⟩ := blk2 (EVa18.out.all _ (.tail _ (.tail _ (.tail _ (.tail _ (.tail _ (.tail _ (.tail _ (.tail _ (.tail _ (.tail _ (.tail _ (.tail _ (.head _)))))))))))))).1
  go_wp2_with fail
  refine (subset_fit n ib a _ Hib.out.1 Ha.out.1 (EVa18.out.all _ (.tail _ (.tail _ (.tail _ (.head _))))).2 (EVa18.out.all _ (.tail _ (.tail _ (.tail _ (.tail _ (.tail _ (.tail _ (.tail _ (.tail _ (.tail _ (.tail _ (.tail _ (.tail _ (.head _)))))))))))))).2 hn (fun e he => by rw [Hib.out.2 e he]; cases mem a.ws e <;> cases mem b.ws e <;> simp)).mono ?_
  rintro x w19 ⟨rfl, hb19⟩
  have EVa19 := Lib.hid (EVa18.out.step hb19)
  clear hb19
  clear pa0 pb0 fa0 fb0 hg0 pa1 pb1 fa1 fb1 hg1
  obtain ⟨pa0, pb0, fa0, fb0, hg0⟩ := blk2 (EVa19.out.all _ (.tail _ (.tail _ (.tail _ (.tail _ (.tail _ (.tail _ (.tail _ (.tail _ (.tail _ (.tail _ (.tail _ (.tail _ (.head _)))))))))))))).1
  obtain ⟨pa1, pb1, fa1, fb1, hg1⟩ := blk2 (EVa19.out.all _ (.tail _ (.tail _ (.tail _ (.tail _ (.tail _ (.tail _ (.tail _ (.tail _ (.tail _ (.head _))))))))))).1
  go_wp2_with fail
  refine (subset_fit n a ab _ Ha.out.1 Hab.out.1 (EVa19.out.all _ (.tail _ (.tail _ (.tail _ (.tail _ (.tail _ (.tail _ (.tail _ (.tail _ (.tail _ (.tail _ (.tail _ (.tail _ (.head _)))))))))))))).2 (EVa19.out.all _ (.tail _ (.tail _ (.tail _ (.tail _ (.tail _ (.tail _ (.tail _ (.tail _ (.tail _ (.head _))))))))))).2 hn (fun e he => by rw [Hab.out.2 e he]; cases mem a.ws e <;> cases mem b.ws e <;> simp)).mono ?_
  rintro x w20 ⟨rfl, hb20⟩
  have EVa20 := Lib.hid (EVa19.out.step hb20)
  clear hb20
  clear pa0 pb0 fa0 fb0 hg0 pa1 pb1 fa1 fb1 hg1
  obtain ⟨pa0, pb0, fa0, fb0, hg0⟩ := blk2 (EVa20.out.all _ (.tail _ (.tail _ (.tail _ (.tail _ (.tail _ (.tail _ (.tail _ (.tail _ (.tail _ (.tail _ (.tail _ (.tail _ (.head _)))))))))))))).1
  go_wp2_with fail
  refine (rest_fit n a _ Ha.out.1 (EVa20.out.all _ (.tail _ (.tail _ (.tail _ (.tail _ (.tail _ (.tail _ (.tail _ (.tail _ (.tail _ (.tail _ (.tail _ (.tail _ (.head _)))))))))))))).2 hn).mono ?_
  rintro x w21 ⟨ra, rfl, hra, rra, mra, hb21⟩
  have EVa21 := Lib.hid (EVa20.out.step hb21)
  have EVb21 := Lib.hid (EVa21.out.box ra rra)
  have Hra := Lib.hid (And.intro hra mra)
  clear hra rra mra hb21
  clear pa0 pb0 fa0 fb0 hg0
  obtain ⟨pa0, pb0, fa0, fb0, hg0⟩ := blk2 (EVa21.out.all _ (.tail _ (.tail _ (.tail _ (.tail _ (.tail _ (.tail _ (.tail _ (.tail _ (.tail _ (.tail _ (.tail _ (.head _))))))))))))).1
  go_wp2_with fail
  refine (rest_fit n b _ Hb.out.1 (EVb21.out.all _ (.tail _ (.tail _ (.tail _ (.tail _ (.tail _ (.tail _ (.tail _ (.tail _ (.tail _ (.tail _ (.tail _ (.tail _ (.head _)))))))))))))).2 hn).mono ?_
  rintro x w22 ⟨rb, rfl, hrb, rrb, mrb, hb22⟩
  have EVa22 := Lib.hid (EVb21.out.step hb22)
  have EVb22 := Lib.hid (EVa22.out.box rb rrb)
  have Hrb := Lib.hid (And.intro hrb mrb)
  clear hrb rrb mrb hb22
  clear pa0 pb0 fa0 fb0 hg0
  obtain ⟨pa0, pb0, fa0, fb0, hg0⟩ := blk2 (EVa22.out.all _ (.tail _ (.tail _ (.tail _ (.tail _ (.tail _ (.tail _ (.tail _ (.tail _ (.tail _ (.tail _ (.head _)))))))))))).1
  go_wp2_with fail
  refine (rest_fit n ab _ Hab.out.1 (EVb22.out.all _ (.tail _ (.tail _ (.tail _ (.tail _ (.tail _ (.tail _ (.tail _ (.tail _ (.tail _ (.tail _ (.tail _ (.head _))))))))))))).2 hn).mono ?_
  rintro x w23 ⟨rab, rfl, hrab, rrab, mrab, hb23⟩
  have EVa23 := Lib.hid (EVb22.out.step hb23)
  have EVb23 := Lib.hid (EVa23.out.box rab rrab)
  have Hrab := Lib.hid (And.intro hrab mrab)
  clear hrab rrab mrab hb23
  clear pa0 pb0 fa0 fb0 hg0
  obtain ⟨pa0, pb0, fa0, fb0, hg0⟩ := blk2 (EVa23.out.all _ (.tail _ (.head _))).1
  obtain ⟨pa1, pb1, fa1, fb1, hg1⟩ := blk2 (EVa23.out.all _ (.head _)).1
  go_wp2_with fail
  refine (inter_fit n ra rb _ Hra.out.1 Hrb.out.1 (EVb23.out.all _ (.tail _ (.tail _ (.head _)))).2 (EVb23.out.all _ (.tail _ (.head _))).2 hn).mono ?_
  rintro x w24 ⟨both, rfl, hboth, rboth, mboth, hb24⟩
  have EVa24 := Lib.hid (EVb23.out.step hb24)
  have EVb24 := Lib.hid (EVa24.out.box both rboth)
  have Hboth := Lib.hid (And.intro hboth mboth)
  clear hboth rboth mboth hb24
  clear pa0 pb0 fa0 fb0 hg0 pa1 pb1 fa1 fb1 hg1
  obtain ⟨pa0, pb0, fa0, fb0, hg0⟩ := blk2 (EVa24.out.all _ (.tail _ (.tail _ (.tail _ (.tail _ (.tail _ (.tail _ (.tail _ (.tail _ (.tail _ (.tail _ (.tail _ (.tail _ (.tail _ (.tail _ (.tail _ (.head _))))))))))))))))).1
  obtain ⟨pa1, pb1, fa1, fb1, hg1⟩ := blk2 (EVa24.out.all _ (.tail _ (.tail _ (.tail _ (.tail _ (.tail _ (.tail _ (.tail _ (.tail _ (.tail _ (.tail _ (.tail _ (.tail _ (.tail _ (.tail _ (.head _)))))))))))))))).1
  go_wp2_with fail
  refine (minus_fit n a b _ Ha.out.1 Hb.out.1 (EVb24.out.all _ (.tail _ (.tail _ (.tail _ (.tail _ (.tail _ (.tail _ (.tail _ (.tail _ (.tail _ (.tail _ (.tail _ (.tail _ (.tail _ (.tail _ (.tail _ (.tail _ (.head _)))))))))))))))))).2 (EVb24.out.all _ (.tail _ (.tail _ (.tail _ (.tail _ (.tail _ (.tail _ (.tail _ (.tail _ (.tail _ (.tail _ (.tail _ (.tail _ (.tail _ (.tail _ (.tail _ (.head _))))))))))))))))).2 hn).mono ?_
  rintro x w25 ⟨m, rfl, hm, rm, mm, hb25⟩
  have EVa25 := Lib.hid (EVb24.out.step hb25)
  have EVb25 := Lib.hid (EVa25.out.box m rm)
  have Hm := Lib.hid (And.intro hm mm)
  clear hm rm mm hb25
  clear pa0 pb0 fa0 fb0 hg0 pa1 pb1 fa1 fb1 hg1
  obtain ⟨pa0, pb0, fa0, fb0, hg0⟩ := blk2 (EVa25.out.all _ (.tail _ (.tail _ (.tail _ (.tail _ (.tail _ (.tail _ (.tail _ (.tail _ (.tail _ (.tail _ (.tail _ (.tail _ (.tail _ (.tail _ (.tail _ (.tail _ (.head _)))))))))))))))))).1
  obtain ⟨pa1, pb1, fa1, fb1, hg1⟩ := blk2 (EVa25.out.all _ (.tail _ (.tail _ (.head _)))).1
  go_wp2_with fail
  refine (inter_fit n a rb _ Ha.out.1 Hrb.out.1 (EVb25.out.all _ (.tail _ (.tail _ (.tail _ (.tail _ (.tail _ (.tail _ (.tail _ (.tail _ (.tail _ (.tail _ (.tail _ (.tail _ (.tail _ (.tail _ (.tail _ (.tail _ (.tail _ (.head _))))))))))))))))))).2 (EVb25.out.all _ (.tail _ (.tail _ (.tail _ (.head _))))).2 hn).mono ?_
  rintro x w26 ⟨mb, rfl, hmb, rmb, mmb, hb26⟩
  have EVa26 := Lib.hid (EVb25.out.step hb26)
  have EVb26 := Lib.hid (EVa26.out.box mb rmb)
  have Hmb := Lib.hid (And.intro hmb mmb)
  clear hmb rmb mmb hb26
  clear pa0 pb0 fa0 fb0 hg0 pa1 pb1 fa1 fb1 hg1
  obtain ⟨pa0, pb0, fa0, fb0, hg0⟩ := blk2 (EVa26.out.all _ (.tail _ (.tail _ (.tail _ (.tail _ (.tail _ (.tail _ (.tail _ (.tail _ (.tail _ (.tail _ (.tail _ (.tail _ (.tail _ (.tail _ (.tail _ (.tail _ (.tail _ (.head _))))))))))))))))))).1
  obtain ⟨pa1, pb1, fa1, fb1, hg1⟩ := blk2 (EVa26.out.all _ (.tail _ (.tail _ (.tail _ (.tail _ (.tail _ (.tail _ (.tail _ (.tail _ (.tail _ (.tail _ (.tail _ (.tail _ (.tail _ (.tail _ (.tail _ (.tail _ (.head _)))))))))))))))))).1
  go_wp2_with fail
  refine (differ_fit n a b _ Ha.out.1 Hb.out.1 (EVb26.out.all _ (.tail _ (.tail _ (.tail _ (.tail _ (.tail _ (.tail _ (.tail _ (.tail _ (.tail _ (.tail _ (.tail _ (.tail _ (.tail _ (.tail _ (.tail _ (.tail _ (.tail _ (.tail _ (.head _)))))))))))))))))))).2 (EVb26.out.all _ (.tail _ (.tail _ (.tail _ (.tail _ (.tail _ (.tail _ (.tail _ (.tail _ (.tail _ (.tail _ (.tail _ (.tail _ (.tail _ (.tail _ (.tail _ (.tail _ (.tail _ (.head _))))))))))))))))))).2 hn).mono ?_
  rintro x w27 ⟨dd, rfl, hdd, rdd, mdd, hb27⟩
  have EVa27 := Lib.hid (EVb26.out.step hb27)
  have EVb27 := Lib.hid (EVa27.out.box dd rdd)
  have Hdd := Lib.hid (And.intro hdd mdd)
  clear hdd rdd mdd hb27
  clear pa0 pb0 fa0 fb0 hg0 pa1 pb1 fa1 fb1 hg1
  obtain ⟨pa0, pb0, fa0, fb0, hg0⟩ := blk2 (EVa27.out.all _ (.tail _ (.tail _ (.tail _ (.tail _ (.tail _ (.tail _ (.tail _ (.tail _ (.tail _ (.tail _ (.tail _ (.tail _ (.tail _ (.tail _ (.tail _ (.head _))))))))))))))))).1
  obtain ⟨pa1, pb1, fa1, fb1, hg1⟩ := blk2 (EVa27.out.all _ (.tail _ (.tail _ (.tail _ (.tail _ (.tail _ (.tail _ (.tail _ (.tail _ (.tail _ (.head _))))))))))).1
  go_wp2_with fail
  refine (minus_fit n ab ib _ Hab.out.1 Hib.out.1 (EVb27.out.all _ (.tail _ (.tail _ (.tail _ (.tail _ (.tail _ (.tail _ (.tail _ (.tail _ (.tail _ (.tail _ (.tail _ (.tail _ (.tail _ (.tail _ (.tail _ (.tail _ (.head _)))))))))))))))))).2 (EVb27.out.all _ (.tail _ (.tail _ (.tail _ (.tail _ (.tail _ (.tail _ (.tail _ (.tail _ (.tail _ (.tail _ (.head _)))))))))))).2 hn).mono ?_
  rintro x w28 ⟨du, rfl, hdu, rdu, mdu, hb28⟩
  have EVa28 := Lib.hid (EVb27.out.step hb28)
  have EVb28 := Lib.hid (EVa28.out.box du rdu)
  have Hdu := Lib.hid (And.intro hdu mdu)
  clear hdu rdu mdu hb28
  clear pa0 pb0 fa0 fb0 hg0 pa1 pb1 fa1 fb1 hg1
  obtain ⟨pa0, pb0, fa0, fb0, hg0⟩ := blk2 (EVa28.out.all _ (.tail _ (.tail _ (.tail _ (.tail _ (.head _)))))).1
  obtain ⟨pa1, pb1, fa1, fb1, hg1⟩ := blk2 (EVa28.out.all _ (.tail _ (.tail _ (.tail _ (.head _))))).1
  go_wp2_with (go_at_call 10; refine (num_any _ _).mono ?_; rintro e' w' ⟨rfl, rfl⟩)
  refine (sames_fit n rab both _ Hrab.out.1 Hboth.out.1 (EVb28.out.all _ (.tail _ (.tail _ (.tail _ (.tail _ (.tail _ (.head _))))))).2 (EVb28.out.all _ (.tail _ (.tail _ (.tail _ (.tail _ (.head _)))))).2 (fun e he => by rw [Hrab.out.2 e he, Hboth.out.2 e he, Hra.out.2 e he, Hrb.out.2 e he, Hab.out.2 e he]; cases mem a.ws e <;> cases mem b.ws e <;> rfl)).mono ?_
  rintro x w29 ⟨rfl, hb29⟩
  have EVa29 := Lib.hid (EVb28.out.step hb29)
  clear hb29
  clear pa0 pb0 fa0 fb0 hg0 pa1 pb1 fa1 fb1 hg1
  obtain ⟨pa0, pb0, fa0, fb0, hg0⟩ := blk2 (EVa29.out.all _ (.tail _ (.tail _ (.tail _ (.head _))))).1
  obtain ⟨pa1, pb1, fa1, fb1, hg1⟩ := blk2 (EVa29.out.all _ (.tail _ (.tail _ (.head _)))).1
  go_wp2_with fail
  refine (sames_fit n m mb _ Hm.out.1 Hmb.out.1 (EVa29.out.all _ (.tail _ (.tail _ (.tail _ (.head _))))).2 (EVa29.out.all _ (.tail _ (.tail _ (.head _)))).2 (fun e he => by rw [Hm.out.2 e he, Hmb.out.2 e he, Hrb.out.2 e he])).mono ?_
  rintro x w30 ⟨rfl, hb30⟩
  have EVa30 := Lib.hid (EVa29.out.step hb30)
  clear hb30
  clear pa0 pb0 fa0 fb0 hg0 pa1 pb1 fa1 fb1 hg1
  obtain ⟨pa0, pb0, fa0, fb0, hg0⟩ := blk2 (EVa30.out.all _ (.tail _ (.head _))).1
  obtain ⟨pa1, pb1, fa1, fb1, hg1⟩ := blk2 (EVa30.out.all _ (.head _)).1
  go_wp2_with fail
  refine (sames_fit n dd du _ Hdd.out.1 Hdu.out.1 (EVa30.out.all _ (.tail _ (.head _))).2 (EVa30.out.all _ (.head _)).2 (fun e he => by rw [Hdd.out.2 e he, Hdu.out.2 e he, Hab.out.2 e he, Hib.out.2 e he]; cases mem a.ws e <;> cases mem b.ws e <;> rfl)).mono ?_
  rintro x w31 ⟨rfl, hb31⟩
  have EVa31 := Lib.hid (EVa30.out.step hb31)
  clear hb31
  clear pa0 pb0 fa0 fb0 hg0 pa1 pb1 fa1 fb1 hg1
  obtain ⟨pa0, pb0, fa0, fb0, hg0⟩ := blk2 (EVa31.out.all _ (.tail _ (.tail _ (.tail _ (.tail _ (.tail _ (.tail _ (.tail _ (.tail _ (.tail _ (.tail _ (.tail _ (.tail _ (.tail _ (.tail _ (.tail _ (.tail _ (.tail _ (.tail _ (.tail _ (.tail _ (.head _)))))))))))))))))))))).1
  obtain ⟨pa1, pb1, fa1, fb1, hg1⟩ := blk2 (EVa31.out.all _ (.tail _ (.tail _ (.tail _ (.tail _ (.tail _ (.tail _ (.tail _ (.head _))))))))).1
  go_wp2_with fail
  refine (disjoint_fit n a ra _ Ha.out.1 Hra.out.1 (EVa31.out.all _ (.tail _ (.tail _ (.tail _ (.tail _ (.tail _ (.tail _ (.tail _ (.tail _ (.tail _ (.tail _ (.tail _ (.tail _ (.tail _ (.tail _ (.tail _ (.tail _ (.tail _ (.tail _ (.tail _ (.tail _ (.head _)))))))))))))))))))))).2 (EVa31.out.all _ (.tail _ (.tail _ (.tail _ (.tail _ (.tail _ (.tail _ (.tail _ (.head _))))))))).2 hn (fun e he => by rw [Hra.out.2 e he]; cases mem a.ws e <;> rfl)).mono ?_
  rintro x w32 ⟨rfl, hb32⟩
  have EVa32 := Lib.hid (EVa31.out.step hb32)
  clear hb32
  clear pa0 pb0 fa0 fb0 hg0 pa1 pb1 fa1 fb1 hg1
  obtain ⟨pa0, pb0, fa0, fb0, hg0⟩ := blk2 (EVa32.out.all _ (.tail _ (.tail _ (.tail _ (.head _))))).1
  obtain ⟨pa1, pb1, fa1, fb1, hg1⟩ := blk2 (EVa32.out.all _ (.tail _ (.tail _ (.tail _ (.tail _ (.tail _ (.tail _ (.tail _ (.tail _ (.tail _ (.tail _ (.tail _ (.tail _ (.tail _ (.tail _ (.tail _ (.tail _ (.tail _ (.tail _ (.tail _ (.head _))))))))))))))))))))).1
  go_wp2_with fail
  refine (disjoint_fit n m b _ Hm.out.1 Hb.out.1 (EVa32.out.all _ (.tail _ (.tail _ (.tail _ (.head _))))).2 (EVa32.out.all _ (.tail _ (.tail _ (.tail _ (.tail _ (.tail _ (.tail _ (.tail _ (.tail _ (.tail _ (.tail _ (.tail _ (.tail _ (.tail _ (.tail _ (.tail _ (.tail _ (.tail _ (.tail _ (.tail _ (.head _))))))))))))))))))))).2 hn (fun e he => by rw [Hm.out.2 e he]; cases mem a.ws e <;> cases mem b.ws e <;> rfl)).mono ?_
  rintro x w33 ⟨rfl, hb33⟩
  have EVa33 := Lib.hid (EVa32.out.step hb33)
  clear hb33
  clear pa0 pb0 fa0 fb0 hg0 pa1 pb1 fa1 fb1 hg1
  have hadd := cntb_add (n := n) (f := mem a.ws) (g := mem b.ws) (u := mem ab.ws) (i := mem ib.ws) (fun e he => by rw [Hab.out.2 e he]) (fun e he => by rw [Hib.out.2 e he])
  have hrest := cntb_rest (n := n) (f := mem a.ws) (r := mem ra.ws) (fun e he => by rw [Hra.out.2 e he])
  have cab := cn_fit Hab.out.1 hn
  have lab := cn_le ab.sz ab.ws
  have cib := cn_fit Hib.out.1 hn
  have lib := cn_le ib.sz ib.ws
  have ca := cn_fit Ha.out.1 hn
  have la := cn_le a.sz a.ws
  have cb := cn_fit Hb.out.1 hn
  have lb := cn_le b.sz b.ws
  have cra := cn_fit Hra.out.1 hn
  have lra := cn_le ra.sz ra.ws
  rw [← cab, ← cib, ← ca, ← cb] at hadd
  rw [← ca, ← cra] at hrest
  clear cab cib ca cb cra
  have kab := fun W (hW : Rd W ab.A ab.ws) => count_any ab.sz ab.A ab.c ab.ws W hW Hab.out.1.ok.lt (by have := Hab.out.1.ok.len; omega)
  have kib := fun W (hW : Rd W ib.A ib.ws) => count_any ib.sz ib.A ib.c ib.ws W hW Hib.out.1.ok.lt (by have := Hib.out.1.ok.len; omega)
  have ka := fun W (hW : Rd W a.A a.ws) => count_any a.sz a.A a.c a.ws W hW Ha.out.1.ok.lt (by have := Ha.out.1.ok.len; omega)
  have kb := fun W (hW : Rd W b.A b.ws) => count_any b.sz b.A b.c b.ws W hW Hb.out.1.ok.lt (by have := Hb.out.1.ok.len; omega)
  have kra := fun W (hW : Rd W ra.A ra.ws) => count_any ra.sz ra.A ra.c ra.ws W hW Hra.out.1.ok.lt (by have := Hra.out.1.ok.len; omega)
  generalize cn ab.sz ab.ws = nab at hadd hrest lab kab
  generalize cn ib.sz ib.ws = nib at hadd hrest lib kib
  generalize cn a.sz a.ws = na at hadd hrest la ka
  generalize cn b.sz b.ws = nb at hadd hrest lb kb
  generalize cn ra.sz ra.ws = nra at hadd hrest lra kra
  have Kab := Lib.hid kab
  have Kib := Lib.hid kib
  have Ka := Lib.hid ka
  have Kb := Lib.hid kb
  have Kra := Lib.hid kra
  obtain ⟨T, hT⟩ : ∃ T : Nat, T = nab + nib := ⟨_, rfl⟩
  have hw1 : IntKind.i64.wrap ((nab : Int) + (nib : Int)) = (T : Int) := by rw [show (nab : Int) + (nib : Int) = (T : Int) from by omega]; exact IntWalk.i64_in _ (by omega)
  have hw2 : IntKind.i64.wrap ((na : Int) + (nb : Int)) = (T : Int) := by rw [show (na : Int) + (nb : Int) = (T : Int) from by omega]; exact IntWalk.i64_in _ (by omega)
  have hw3 : IntKind.i64.wrap ((na : Int) + (nra : Int)) = (n : Int) := by rw [show (na : Int) + (nra : Int) = (n : Int) from by omega]; exact IntWalk.i64_in _ (by omega)
  clear hT hadd hrest lab kab lib kib la ka lb kb lra kra
  have HST : ∀ W : World, Below w33.heap.size w33 W → (W.cell? ⟨w4.heap.size, 0, none⟩ = some (.int .i64 ab.sz) ∧ W.cell? ⟨w4.heap.size, 1, none⟩ = some (.slice ab.A ab.ws.length ab.c) ∧ W.cell? ⟨w10.heap.size, 0, none⟩ = some (.int .i64 ib.sz) ∧ W.cell? ⟨w10.heap.size, 1, none⟩ = some (.slice ib.A ib.ws.length ib.c) ∧ W.cell? ⟨w1.heap.size, 0, none⟩ = some (.int .i64 a.sz) ∧ W.cell? ⟨w1.heap.size, 1, none⟩ = some (.slice a.A a.ws.length a.c) ∧ W.cell? ⟨w2.heap.size, 0, none⟩ = some (.int .i64 b.sz) ∧ W.cell? ⟨w2.heap.size, 1, none⟩ = some (.slice b.A b.ws.length b.c) ∧ W.cell? ⟨w21.heap.size, 0, none⟩ = some (.int .i64 ra.sz) ∧ W.cell? ⟨w21.heap.size, 1, none⟩ = some (.slice ra.A ra.ws.length ra.c) ∧ Below w33.heap.size w33 W) := fun W hb => ⟨(blk2 (((EVa33.out.step hb).all _ (.tail _ (.tail _ (.tail _ (.tail _ (.tail _ (.tail _ (.tail _ (.tail _ (.tail _ (.tail _ (.tail _ (.tail _ (.tail _ (.tail _ (.tail _ (.tail _ (.tail _ (.head _))))))))))))))))))).1)).1, (blk2 (((EVa33.out.step hb).all _ (.tail _ (.tail _ (.tail _ (.tail _ (.tail _ (.tail _ (.tail _ (.tail _ (.tail _ (.tail _ (.tail _ (.tail _ (.tail _ (.tail _ (.tail _ (.tail _ (.tail _ (.head _))))))))))))))))))).1)).2.1, (blk2 (((EVa33.out.step hb).all _ (.tail _ (.tail _ (.tail _ (.tail _ (.tail _ (.tail _ (.tail _ (.tail _ (.tail _ (.tail _ (.tail _ (.head _))))))))))))).1)).1, (blk2 (((EVa33.out.step hb).all _ (.tail _ (.tail _ (.tail _ (.tail _ (.tail _ (.tail _ (.tail _ (.tail _ (.tail _ (.tail _ (.tail _ (.head _))))))))))))).1)).2.1, (blk2 (((EVa33.out.step hb).all _ (.tail _ (.tail _ (.tail _ (.tail _ (.tail _ (.tail _ (.tail _ (.tail _ (.tail _ (.tail _ (.tail _ (.tail _ (.tail _ (.tail _ (.tail _ (.tail _ (.tail _ (.tail _ (.tail _ (.tail _ (.head _)))))))))))))))))))))).1)).1, (blk2 (((EVa33.out.step hb).all _ (.tail _ (.tail _ (.tail _ (.tail _ (.tail _ (.tail _ (.tail _ (.tail _ (.tail _ (.tail _ (.tail _ (.tail _ (.tail _ (.tail _ (.tail _ (.tail _ (.tail _ (.tail _ (.tail _ (.tail _ (.head _)))))))))))))))))))))).1)).2.1, (blk2 (((EVa33.out.step hb).all _ (.tail _ (.tail _ (.tail _ (.tail _ (.tail _ (.tail _ (.tail _ (.tail _ (.tail _ (.tail _ (.tail _ (.tail _ (.tail _ (.tail _ (.tail _ (.tail _ (.tail _ (.tail _ (.tail _ (.head _))))))))))))))))))))).1)).1, (blk2 (((EVa33.out.step hb).all _ (.tail _ (.tail _ (.tail _ (.tail _ (.tail _ (.tail _ (.tail _ (.tail _ (.tail _ (.tail _ (.tail _ (.tail _ (.tail _ (.tail _ (.tail _ (.tail _ (.tail _ (.tail _ (.tail _ (.head _))))))))))))))))))))).1)).2.1, (blk2 (((EVa33.out.step hb).all _ (.tail _ (.tail _ (.tail _ (.tail _ (.tail _ (.tail _ (.tail _ (.head _))))))))).1)).1, (blk2 (((EVa33.out.step hb).all _ (.tail _ (.tail _ (.tail _ (.tail _ (.tail _ (.tail _ (.tail _ (.head _))))))))).1)).2.1, hb⟩
  have HSB : ∀ W : World, (W.cell? ⟨w4.heap.size, 0, none⟩ = some (.int .i64 ab.sz) ∧ W.cell? ⟨w4.heap.size, 1, none⟩ = some (.slice ab.A ab.ws.length ab.c) ∧ W.cell? ⟨w10.heap.size, 0, none⟩ = some (.int .i64 ib.sz) ∧ W.cell? ⟨w10.heap.size, 1, none⟩ = some (.slice ib.A ib.ws.length ib.c) ∧ W.cell? ⟨w1.heap.size, 0, none⟩ = some (.int .i64 a.sz) ∧ W.cell? ⟨w1.heap.size, 1, none⟩ = some (.slice a.A a.ws.length a.c) ∧ W.cell? ⟨w2.heap.size, 0, none⟩ = some (.int .i64 b.sz) ∧ W.cell? ⟨w2.heap.size, 1, none⟩ = some (.slice b.A b.ws.length b.c) ∧ W.cell? ⟨w21.heap.size, 0, none⟩ = some (.int .i64 ra.sz) ∧ W.cell? ⟨w21.heap.size, 1, none⟩ = some (.slice ra.A ra.ws.length ra.c) ∧ Below w33.heap.size w33 W) → Below w33.heap.size w33 W := fun W h => h.2.2.2.2.2.2.2.2.2.2
  have HS := Lib.hid (And.intro HST HSB)
  clear HST HSB
  go_wp2
  go_region_held3 (fun W => W.cell? ⟨w4.heap.size, 0, none⟩ = some (.int .i64 ab.sz) ∧ W.cell? ⟨w4.heap.size, 1, none⟩ = some (.slice ab.A ab.ws.length ab.c) ∧ W.cell? ⟨w10.heap.size, 0, none⟩ = some (.int .i64 ib.sz) ∧ W.cell? ⟨w10.heap.size, 1, none⟩ = some (.slice ib.A ib.ws.length ib.c) ∧ W.cell? ⟨w1.heap.size, 0, none⟩ = some (.int .i64 a.sz) ∧ W.cell? ⟨w1.heap.size, 1, none⟩ = some (.slice a.A a.ws.length a.c) ∧ W.cell? ⟨w2.heap.size, 0, none⟩ = some (.int .i64 b.sz) ∧ W.cell? ⟨w2.heap.size, 1, none⟩ = some (.slice b.A b.ws.length b.c) ∧ W.cell? ⟨w21.heap.size, 0, none⟩ = some (.int .i64 ra.sz) ∧ W.cell? ⟨w21.heap.size, 1, none⟩ = some (.slice ra.A ra.ws.length ra.c) ∧ Below w33.heap.size w33 W)
    (first | exact HS.out.1 _ (bl_d (Below.refl _ _)) | exact HS.out.1 _ (bl_t (HS.out.2 _ (by assumption)) (by assumption)))
    (first
      | (go_at_call_of 24 (Value.agg #[.int .i64 ab.sz, .slice ab.A ab.ws.length ab.c]); refine (Kab.out _ ((EVa33.out.step (HS.out.2 _ (by assumption))).all _ (.tail _ (.tail _ (.tail _ (.tail _ (.tail _ (.tail _ (.tail _ (.tail _ (.tail _ (.tail _ (.tail _ (.tail _ (.tail _ (.tail _ (.tail _ (.tail _ (.tail _ (.head _))))))))))))))))))).2).mono ?_; rintro x w1' ⟨rfl, hb1'⟩)
      | (go_at_call_of 24 (Value.agg #[.int .i64 ib.sz, .slice ib.A ib.ws.length ib.c]); refine (Kib.out _ ((EVa33.out.step (HS.out.2 _ (by assumption))).all _ (.tail _ (.tail _ (.tail _ (.tail _ (.tail _ (.tail _ (.tail _ (.tail _ (.tail _ (.tail _ (.tail _ (.head _))))))))))))).2).mono ?_; rintro x w1' ⟨rfl, hb1'⟩)
      | (go_at_call_of 24 (Value.agg #[.int .i64 a.sz, .slice a.A a.ws.length a.c]); refine (Ka.out _ ((EVa33.out.step (HS.out.2 _ (by assumption))).all _ (.tail _ (.tail _ (.tail _ (.tail _ (.tail _ (.tail _ (.tail _ (.tail _ (.tail _ (.tail _ (.tail _ (.tail _ (.tail _ (.tail _ (.tail _ (.tail _ (.tail _ (.tail _ (.tail _ (.tail _ (.head _)))))))))))))))))))))).2).mono ?_; rintro x w1' ⟨rfl, hb1'⟩)
      | (go_at_call_of 24 (Value.agg #[.int .i64 b.sz, .slice b.A b.ws.length b.c]); refine (Kb.out _ ((EVa33.out.step (HS.out.2 _ (by assumption))).all _ (.tail _ (.tail _ (.tail _ (.tail _ (.tail _ (.tail _ (.tail _ (.tail _ (.tail _ (.tail _ (.tail _ (.tail _ (.tail _ (.tail _ (.tail _ (.tail _ (.tail _ (.tail _ (.tail _ (.head _))))))))))))))))))))).2).mono ?_; rintro x w1' ⟨rfl, hb1'⟩)
      | (go_at_call_of 24 (Value.agg #[.int .i64 ra.sz, .slice ra.A ra.ws.length ra.c]); refine (Kra.out _ ((EVa33.out.step (HS.out.2 _ (by assumption))).all _ (.tail _ (.tail _ (.tail _ (.tail _ (.tail _ (.tail _ (.tail _ (.head _))))))))).2).mono ?_; rintro x w1' ⟨rfl, hb1'⟩))
  rename_i hH
  have hfin := EVa33.out.step (HS.out.2 _ hH)
  have HF := Lib.hid hfin.bl
  clear hH hfin
  go_wp2
  go_ret
  exact ⟨rfl, HF.out⟩
theorem lattice_walk (size : Int) (B1 B2 B3 : Option Addr) (d1 d2 d3 : Nat) (z1 z2 z3 : List Int) (w : World) (hz1 : RdI w B1 z1) (hz2 : RdI w B2 z2) (hz3 : RdI w B3 z3) (hl1 : z1.length ≤ 9223372036854775807) (hl2 : z2.length ≤ 9223372036854775807) (hl3 : z3.length ≤ 9223372036854775807) :
    Calls Try.prog 6 #[.int .i64 size, .slice B1 z1.length d1, .slice B2 z2.length d2, .slice B3 z3.length d3] w fun x w' => x = .returned (.bool true) ∧ Below w.heap.size w w' := by
  cases hs : szB size with
  | false => exact lattice_size size B1 B2 B3 d1 d2 d3 z1 z2 z3 w hz1 hz2 hz3 hl1 hl2 hl3 hs
  | true =>
    obtain ⟨n, rfl⟩ : ∃ n : Nat, size = n := ⟨size.toNat, by unfold szB at hs; simp at hs; omega⟩
    have hn : n ≤ 4096 := by unfold szB at hs; simp at hs; omega
    have hmk : ∀ zs, mkspec n zs = mkgo n zs fun _ => false := fun zs => by unfold mkspec; rw [if_neg (by rw [hs]; simp)]; rfl
    have hke : ∀ zs k, mkspec n zs = .err k → ((k : Int) != 0) = true := fun zs k h => by
      rw [hmk] at h
      have := mkerr h
      rw [bne_iff_ne]
      omega
    have hks : ∀ zs m f, mkspec n zs = .set m f → m = n := fun zs m f h => by
      rw [hmk] at h
      exact mksize h
    cases h1 : mkspec n z1 with
    | err k => exact lattice_err1 n B1 B2 B3 d1 d2 d3 z1 z2 z3 w hz1 hz2 hz3 hl1 hl2 hl3 hn k h1 (hke _ _ h1)
    | set m1 f1 =>
      cases h2 : mkspec n z2 with
      | err k => exact lattice_err2 n B1 B2 B3 d1 d2 d3 z1 z2 z3 w hz1 hz2 hz3 hl1 hl2 hl3 hn m1 f1 h1 k h2 (hke _ _ h2)
      | set m2 f2 =>
        cases h3 : mkspec n z3 with
        | err k => exact lattice_err3 n B1 B2 B3 d1 d2 d3 z1 z2 z3 w hz1 hz2 hz3 hl1 hl2 hl3 hn m1 f1 h1 m2 f2 h2 k h3 (hke _ _ h3)
        | set m3 f3 =>
          have e1 := hks _ _ _ h1
          have e2 := hks _ _ _ h2
          have e3 := hks _ _ _ h3
          rw [e1] at h1
          rw [e2] at h2
          rw [e3] at h3
          exact lattice_main n B1 B2 B3 d1 d2 d3 z1 z2 z3 w hz1 hz2 hz3 hl1 hl2 hl3 hn f1 f2 f3 h1 h2 h3
end Go.Proofs.Ytlmjfcieiengcaa
