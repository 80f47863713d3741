/- bitset.Cover. The words are words; the lengths are ones that slices can have. -/
import Derived.Test.YtlmjfcieiengcaaCov
import Derived.Test.YtlmjfcieiengcaaInts
import Derived.Deep.DeepCutAuto
namespace Go.Proofs.Ytlmjfcieiengcaa
open Go.RowKit
def CovPost (size : Int) (l : List SV) (s : SV) (w : World) (x : Ending) (w' : World) : Prop :=
  Below w.heap.size w w' ∧ ∃ A c zs, x = .returned (.tuple #[.slice A (zs : List Int).length c, .int .i64 (covE size l s : Nat)]) ∧ RdI w' A zs ∧ zs.length ≤ 4096 ∧ (covE size l s = 0 → Cov (gS l) size.toNat l.length (mem s.ws) zs) ∧ (covE size l s ≠ 0 → zs = [])
theorem CovPost.err {size : Int} {l : List SV} {s : SV} {w w' : World} {k : Nat} (hk : covE size l s = k) (h0 : k ≠ 0) (hb : Below w.heap.size w w') : CovPost size l s w (.returned (.tuple #[.slice none 0 0, .int .i64 (k : Nat)])) w' :=
  ⟨hb, none, 0, [], by rw [hk]; rfl, RdI.nil _ _, by simp, fun h => absurd (hk.symm.trans h) h0, fun _ => rfl⟩
/-- what is held while a cover is picked -/
structure CovI (n : Nat) (l : List SV) (s : SV) (B : Option Addr) (d : Nat) (w wr : World) (k : Nat) (left : SV) (zs : List Int) : Prop where
  tab : wr.heap[w.heap.size]? = some (.cells #[.int .i64 n, .slice B l.length d] 35 (0, 0))
  box : wr.heap[k]? = some (.cells #[.int .i64 left.sz, .slice left.A left.ws.length left.c] 24 (0, 0))
  low : w.heap.size + 2 ≤ k
  fit : Fit n left
  rd : Rd wr left.A left.ws
  cov : ∀ out, Cov (gS l) n l.length (mem left.ws) out → Cov (gS l) n l.length (mem s.ws) (zs ++ out)
  sub : uB l n (mem left.ws) = true
  few : zs.length + cntb (mem left.ws) n ≤ n
  apart : ∀ j, j < left.ws.length → ∃ b off, left.A = some ⟨b, off, none⟩ ∧ b < wr.heap.size ∧ (b < w.heap.size ∨ ∃ cs, wr.heap[b]? = some (.cells cs 75 (0, 0)))
  bel : Below w.heap.size w wr
theorem own_setne {w : World} {base n size : Nat} {e : TypeId} {v : Value} {xs : List Value} (h : w.ownsRow base e size v n xs) {p : Addr} (hp : some p.block ≠ v.ownBlock) (u : Value) : (w.setCell p u).ownsRow base e size v n xs := by
  refine ⟨h.1, ?_⟩
  rcases h.2 with h0 | ⟨g, cap, cur, rfl, hb, hh, r⟩
  · exact .inl h0
  · refine .inr ⟨g, cap, cur, rfl, hb, (hs_other w p u g ?_).trans hh, r⟩
    intro e
    apply hp
    simp [Value.ownBlock, e]
theorem own_neS {w : World} {base g n : Nat} {v : Value} {xs : List Value} {cs : Array Value} (h : w.ownsRow base 3 1 v n xs) (hw : w.heap[g]? = some (.cells cs 24 (0, 0))) : some g ≠ v.ownBlock := by
  intro e
  rcases h.2 with ⟨h1, _⟩ | ⟨g', cap, cur, h1, hb, hh, _⟩
  · subst h1
    cases e
  · subst h1
    simp [Value.ownBlock] at e
    subst e
    rw [hw] at hh
    injection hh with hh
    injection hh with _ h2 _
    exact absurd h2 (by decide)
theorem CovI.below {n : Nat} {l : List SV} {s : SV} {B : Option Addr} {d : Nat} {w wr wq : World} {k : Nat} {left : SV} {zs : List Int} (h : CovI n l s B d w wr k left zs) (hb : Below wr.heap.size wr wq) : CovI n l s B d w wq k left zs :=
  ⟨(hb.block _ (blk_lt h.tab)).trans h.tab, (hb.block _ (blk_lt h.box)).trans h.box, h.low, h.fit, h.rd.below hb, h.cov, h.sub, h.few, (fun j hj => by
    obtain ⟨b, off, h1, h2, h3⟩ := h.apart j hj
    refine ⟨b, off, h1, Nat.lt_of_lt_of_le h2 hb.size, ?_⟩
    rcases h3 with h3 | ⟨cs, h3⟩
    · exact .inl h3
    · exact .inr ⟨cs, (hb.block _ h2).trans h3⟩), bl_t h.bel hb⟩
theorem own_neT {w : World} {base g n : Nat} {v : Value} {xs : List Value} {cs : Array Value} {t : TypeId} (h : w.ownsRow base 3 1 v n xs) (hw : w.heap[g]? = some (.cells cs t (0, 0))) (ht : t ≠ 3) : some g ≠ v.ownBlock := by
  intro e
  rcases h.2 with ⟨h1, _⟩ | ⟨g', cap, cur, h1, hb, hh, _⟩
  · subst h1
    cases e
  · subst h1
    simp [Value.ownBlock] at e
    subst e
    rw [hw] at hh
    injection hh with hh
    injection hh with _ h2 _
    exact ht h2
theorem CovI.grown {n : Nat} {l : List SV} {s : SV} {B : Option Addr} {d : Nat} {w wr wq : World} {k m : Nat} {left : SV} {zs : List Int} {v : Value} {xs : List Value} (h : CovI n l s B d w wr k left zs) (ho : wr.ownsRow (w.heap.size + 2) 3 1 v m xs) (hg : wr.grownBy wq v.ownBlock) (hb : Below w.heap.size w wq) : CovI n l s B d w wq k left zs := by
  have hap : ∀ j, j < left.ws.length → ∃ b off, left.A = some ⟨b, off, none⟩ ∧ b < wr.heap.size ∧ some b ≠ v.ownBlock ∧ (b < w.heap.size ∨ ∃ cs, wr.heap[b]? = some (.cells cs 75 (0, 0))) := by
    intro j hj
    obtain ⟨b, off, h1, h2, h3⟩ := h.apart j hj
    refine ⟨b, off, h1, h2, ?_, h3⟩
    rcases h3 with h3 | ⟨cs, h3⟩
    · intro e
      have := own_base ho b e.symm
      omega
    · exact own_neT ho h3 (by decide)
  refine ⟨blk_grown h.tab hg (own_neT ho h.tab (by decide)), blk_grown h.box hg (own_neT ho h.box (by decide)), h.low, h.fit, fun j hj => ?_, h.cov, h.sub, h.few, fun j hj => ?_, hb⟩
  · obtain ⟨b, off, h1, h2, h3⟩ := h.rd j hj
    obtain ⟨b', off', h1', h2', h4, _⟩ := hap j hj
    rw [h1] at h1'
    injection h1' with e
    injection e with e _ _
    subst e
    refine ⟨b, off, h1, Nat.lt_of_lt_of_le h2 hg.size, ?_⟩
    rw [blk_cell (hg.block b h2 h4)]
    exact h3
  · obtain ⟨b, off, h1, h2, h4, h5⟩ := hap j hj
    refine ⟨b, off, h1, Nat.lt_of_lt_of_le h2 hg.size, ?_⟩
    rcases h5 with h5 | ⟨cs, h5⟩
    · exact .inl h5
    · exact .inr ⟨cs, (hg.block b h2 h4).trans h5⟩
theorem CovI.next {n : Nat} {l : List SV} {s : SV} {B : Option Addr} {d : Nat} {w w9 : World} {k bb : Nat} {left a : SV} {zs : List Int} {x0 x1 : Value} (h : CovI n l s B d w w9 k left zs)
    (hfit : Fit n a) (hrd : Rd w9 a.A a.ws) (hown : ∀ p, a.A = some p → WB w9 p.block a.ws) (hmem : ∀ e, mem a.ws e = (decide (e < n) && (mem left.ws e && !gS l bb e)))
    (hbb : bb = (bst (gS l) (mem left.ws) n l.length).1) (hbp : 0 < (bst (gS l) (mem left.ws) n l.length).2) (hbc : cntb (fun e => mem left.ws e && gS l (bst (gS l) (mem left.ws) n l.length).1 e) n = (bst (gS l) (mem left.ws) n l.length).2) :
    CovI n l s B d w (((w9.setCell ⟨k, 0, none⟩ x0).setCell ⟨k, 1, none⟩ x1).alloc (.cells #[.int .i64 a.sz, .slice a.A a.ws.length a.c] 24)) w9.heap.size a (zs ++ [(bb : Int)]) := by
  subst hbb
  have hm : mem a.ws = fun e => mem left.ws e && !gS l (bst (gS l) (mem left.ws) n l.length).1 e := by
    funext e
    rw [hmem e]
    cases hl : mem left.ws e with
    | false => simp
    | true =>
      have h2 := h.fit.ws.has e
      rw [hl] at h2
      simp at h2
      simp [h2]
  have hsz : ((w9.setCell ⟨k, 0, none⟩ x0).setCell ⟨k, 1, none⟩ x1).heap.size = w9.heap.size := by rw [size_set, size_set]
  have hkeep : ∀ b, b ≠ k → b < w9.heap.size → (((w9.setCell ⟨k, 0, none⟩ x0).setCell ⟨k, 1, none⟩ x1).alloc (.cells #[.int .i64 a.sz, .slice a.A a.ws.length a.c] 24)).heap[b]? = w9.heap[b]? := by
    intro b hb hlt
    exact (ha_old _ _ _ (by rw [hsz]; exact hlt)).trans ((hs_other _ _ _ b hb).trans (hs_other _ _ _ b hb))
  have hap : ∀ j, j < a.ws.length → ∃ b off, a.A = some ⟨b, off, none⟩ ∧ b < w9.heap.size ∧ b ≠ k ∧ ∃ cs, w9.heap[b]? = some (.cells cs 75 (0, 0)) := by
    intro j hj
    obtain ⟨b, off, h1, h2, h3⟩ := hrd j hj
    obtain ⟨sp, h4⟩ := hown _ h1
    refine ⟨b, off, h1, h2, ?_, _, h4⟩
    intro e
    subst e
    have h5 := h.box
    rw [h4] at h5
    injection h5 with h5
    injection h5 with _ h6 _
    exact absurd h6 (by decide)
  refine ⟨(hkeep _ (by have := h.low; omega) (blk_lt h.tab)).trans h.tab, ha_new _ _ _ hsz.symm, by have := h.low; have := blk_lt h.box; omega, hfit, fun j hj => ?_, fun out ho => ?_, ?_, ?_, fun j hj => ?_, ?_⟩
  · obtain ⟨b, off, h1, h2, h3⟩ := hrd j hj
    obtain ⟨b', off', h1', h2', h4, _⟩ := hap j hj
    rw [h1] at h1'
    injection h1' with e
    injection e with e _ _
    subst e
    refine ⟨b, off, h1, by simp; omega, ?_⟩
    rw [blk_cell (hkeep b h4 h2)]
    exact h3
  · rw [List.append_assoc]
    refine h.cov _ (Cov.step hbp ?_)
    rw [hm] at ho
    exact ho
  · rw [uB_iff]
    intro e he hf
    rw [hm] at hf
    simp at hf
    exact uB_iff.1 h.sub e he hf.1
  · have h1 := cntb_split (mem left.ws) (gS l (bst (gS l) (mem left.ws) n l.length).1) n
    have h2 := h.few
    rw [hm, List.length_append, List.length_singleton]
    omega
  · obtain ⟨b, off, h1, h2, h4, cs, h5⟩ := hap j hj
    exact ⟨b, off, h1, by simp; omega, .inr ⟨cs, (hkeep b h4 h2).trans h5⟩⟩
  · exact bl_a (bl_s (bl_s h.bel (by have := h.low; show w.heap.size ≤ k; omega) _) (by have := h.low; show w.heap.size ≤ k; omega) _) _
def lenOf : Value → Nat
  | .slice _ n _ => n
  | _ => 0
theorem own_lenOf {w : World} {base n size : Nat} {e : TypeId} {v : Value} {xs : List Value} (h : w.ownsRow base e size v n xs) : lenOf v = n := by
  rcases h.2 with ⟨h1, h2⟩ | ⟨g, cap, cur, h1, _⟩
  · subst h1
    exact h2.symm
  · subst h1
    rfl
theorem own_rdZ {w : World} {base : Nat} {v : Value} {zs : List Int} (h : w.ownsRow base 3 1 v zs.length (encI zs)) :
    ∃ A c, v = .slice A zs.length c ∧ zs.length ≤ c ∧ RdI w A zs ∧ (A = none → zs.length = 0 ∧ c = 0) := by
  rcases h.2 with ⟨h1, h2⟩ | ⟨g, cap, cur, h1, h2, h3, _⟩
  · subst h1
    have h0 : zs = [] := List.eq_nil_of_length_eq_zero h2
    subst h0
    exact ⟨none, 0, rfl, Nat.le_refl _, RdI.nil _ _, fun _ => ⟨rfl, rfl⟩⟩
  · subst h1
    obtain ⟨hwb, hgb, _, hc⟩ := own_ib h
    exact ⟨_, _, rfl, hc, hwb.rd, fun h => by cases h⟩
set_option maxRecDepth 100000 in
set_option maxHeartbeats 10000000 in
theorem cover_any (size : Int) (B : Option Addr) (d : Nat) (l : List SV) (s : SV) (w : World) (hl : RdS w B l) (hok : ∀ s ∈ l, s.Ok) (hn : l.length ≤ 9223372036854775807) (hs : Rd w s.A s.ws) (hso : s.Ok) :
    Calls Try.prog 13 #[.agg #[.int .i64 size, .slice B l.length d], .agg #[.int .i64 s.sz, .slice s.A s.ws.length s.c]] w (CovPost size l s w) := by
  obtain ⟨w1, hw1⟩ : ∃ w1, w1 = (w.alloc (.cells #[.int .i64 size, .slice B l.length d] 35)).alloc (.cells #[.int .i64 s.sz, .slice s.A s.ws.length s.c] 24) := ⟨_, rfl⟩
  have hbl1 : Below w.heap.size w w1 := by rw [hw1]; exact bl_a (bl_a (Below.refl _ _) _) _
  have hbt1 : w1.heap[w.heap.size]? = some (.cells #[.int .i64 size, .slice B l.length d] 35 (0, 0)) := by rw [hw1]; exact (ha_old _ _ _ (by simp)).trans (ha_new _ _ _ rfl)
  have hbs1 : w1.heap[w.heap.size + 1]? = some (.cells #[.int .i64 s.sz, .slice s.A s.ws.length s.c] 24 (0, 0)) := by rw [hw1]; exact ha_new _ _ _ (by simp)
  have HMT := Lib.hid (maytable_any size B d l w1 (hl.below hbl1) hok hn)
  have HMS := Lib.hid (fun W hW => may_any s.sz s.A s.c s.ws W hW hso.lt (by have := hso.len; omega))
  have H1 := Lib.hid (And.intro hbl1 (And.intro hbt1 hbs1))
  rw [hw1] at HMT
  clear hbl1 hbt1 hbs1
  cases hmt : mtB size l with
  | false =>
    have HP : Hid (covE size l s = 61) := by unfold Hid covE; rw [if_pos (.inl hmt)]
    rw [hmt] at HMT
    clear hmt
    go_enter Try.func13, Try.ntmps13
    go_wp2_with fail
    refine HMT.out.mono ?_
    rw [← hw1]
    rintro x w2 ⟨rfl, hb2⟩
    go_wp2
    go_ret2
    exact CovPost.err HP.out (by decide) (bl_t H1.out.1 hb2)
  | true =>
    have HT := Lib.hid hmt
    rw [hmt] at HMT
    clear hmt
    cases hms : mayB s.sz s.ws with
    | false =>
      have HP : Hid (covE size l s = 61) := by unfold Hid covE; rw [if_pos (.inr hms)]
      rw [hms] at HMS
      clear hms
      go_enter Try.func13, Try.ntmps13
      go_wp2_with fail
      refine HMT.out.mono ?_
      rw [← hw1]
      rintro x w2 ⟨rfl, hb2⟩
      obtain ⟨p0, p1, f0, f1, hg0⟩ := blk2 ((hb2.block _ (blk_lt H1.out.2.2)).trans H1.out.2.2)
      have hr2 := hs.below (bl_t H1.out.1 hb2)
      go_wp2_with fail
      refine (HMS.out _ hr2).mono ?_
      rintro x w3 ⟨rfl, hb3⟩
      clear p0 p1 f0 f1
      go_wp2
      go_ret2
      exact CovPost.err HP.out (by decide) (bl_t (bl_t H1.out.1 hb2) hb3)
    | true =>
      rw [hms] at HMS
      have HS := Lib.hid hms
      clear hms
      by_cases hsz : size = s.sz
      · obtain ⟨hl4, hf0⟩ := mtB_true HT.out
        obtain ⟨hfm, hszB, hfs⟩ := fitE_zero hf0
        obtain ⟨n, hn0, hn4⟩ : ∃ n : Nat, size = n ∧ n ≤ 4096 := by
          unfold szB at hszB
          simp at hszB
          exact ⟨size.toNat, by omega, by omega⟩
        subst hn0
        have hfit : ∀ a ∈ l, Fit n a := fun a ha => fit_of_may (hfm a ha) (hfs a ha) (hok a ha)
        have hfs' : Fit n s := fit_of_may HS.out hsz.symm hso
        have hFE : unspec (fun x y => x || y) (fun _ => false) n l = .set n (ff (fun x y => x || y) l (fun _ => false) l.length) := by unfold unspec; rw [if_pos hf0]; rfl
        have hU := fun W hW => union_any n B d l W hW hok hn
        rw [hFE] at hU
        have HU := Lib.hid hU
        have hneb : ((n : Int) != s.sz) = false := by rw [bne_eq_false_iff_eq]; exact hsz
        have HE : Hid (covE n l s = if uB l n (mem s.ws) = false then 321 else 0) := by
          unfold Hid covE
          rw [if_neg (by rw [HT.out, HS.out]; simp), if_neg (by simpa using hsz)]
          rfl
        have HFIT := Lib.hid hfit
        have HFS := Lib.hid hfs'
        clear hsz hf0 hfm hszB hfs hfit hfs' hFE hU
        go_enter Try.func13, Try.ntmps13
        go_wp2_with fail
        refine HMT.out.mono ?_
        rw [← hw1]
        rintro x w2 ⟨rfl, hb2⟩
        obtain ⟨p0, p1, f0, f1, hg0⟩ := blk2 ((hb2.block _ (blk_lt H1.out.2.2)).trans H1.out.2.2)
        have hr2 := hs.below (bl_t H1.out.1 hb2)
        go_wp2_with fail
        refine (HMS.out _ hr2).mono ?_
        rintro x w3 ⟨rfl, hb3⟩
        clear p0 p1 f0 f1 hg0
        have hb13 := bl_t hb2 hb3
        obtain ⟨p0, p1, f0, f1, hg0⟩ := blk2 ((hb13.block _ (blk_lt H1.out.2.2)).trans H1.out.2.2)
        obtain ⟨q0, q1, r0, r1, hg1⟩ := blk2 ((hb13.block _ (blk_lt H1.out.2.1)).trans H1.out.2.1)
        go_wp2_with fail
        refine (HU.out _ (hl.below (bl_t H1.out.1 hb13))).mono ?_
        intro x w4 hp
        obtain ⟨a, e, rfl, ha, hb4⟩ := hp.out
        obtain ⟨ha1, ha2, ha3, rfl⟩ := ha
        have hfa : Fit n a := ⟨ha1, ha3.self, ha3.lt, ha2.nil, by rw [ha3.len, nw_eq]; omega, ha2.cap⟩
        have hra := ha2.rd
        have hrs4 := hs.below (bl_t (bl_t H1.out.1 hb13) hb4)
        have hsub := fun W h1 h2 => subset_any s a W h1 h2 hso hfa.ok
        rw [sub_uB HFS.out hfa hn4 ha3] at hsub
        have HSUB := Lib.hid hsub
        have HA := Lib.hid (And.intro ha2 ha3)
        clear hp ha1 ha2 ha3 hsub hfa p0 p1 f0 f1 q0 q1 r0 r1
        have hb14 := bl_t hb13 hb4
        obtain ⟨p0, p1, f0, f1, hg0⟩ := blk2 ((hb14.block _ (blk_lt H1.out.2.2)).trans H1.out.2.2)
        obtain ⟨b0, b1, b2, b3, hg2⟩ := blk2 (ha_new w4 (.cells #[.int .i64 a.sz, .slice a.A a.ws.length a.c] 24) _ rfl)
        go_wp2_with fail
        refine (HSUB.out _ (hrs4.below (bl_a (Below.refl _ _) _)) (hra.below (bl_a (Below.refl _ _) _))).mono ?_
        rintro x w5 ⟨rfl, hb5⟩
        clear p0 p1 f0 f1 b0 b1 b2 b3 hg2
        have hb15 := bl_t (bl_a hb14 (.cells #[.int .i64 a.sz, .slice a.A a.ws.length a.c] 24)) hb5
        cases hub : uB l n (mem s.ws) with
        | false =>
          go_wp2
          go_ret2
          exact CovPost.err (by rw [HE.out, if_pos hub]) (by decide) (bl_t H1.out.1 hb15)
        | true =>
          have HUB := Lib.hid hub
          clear hub
          obtain ⟨p0, p1, f0, f1, hg0⟩ := blk2 ((hb15.block _ (blk_lt H1.out.2.2)).trans H1.out.2.2)
          obtain ⟨w6, hw6⟩ : ∃ w6, w6 = w5.alloc (.cells #[.int .i64 s.sz, .slice s.A s.ws.length s.c] 24) := ⟨_, rfl⟩
          have hI0 : CovI n l s B d w w6 w5.heap.size s [] := by
            have hts := (hb15.block _ (blk_lt H1.out.2.1)).trans H1.out.2.1
            rw [hw6]
            exact ⟨(ha_old _ _ _ (blk_lt hts)).trans hts, ha_new _ _ _ rfl, by have := (bl_t H1.out.1 hb15).size; have := blk_lt H1.out.2.2; have := hb15.size; omega, HFS.out, hs.below (bl_a (bl_t H1.out.1 hb15) _), fun _ h => h, HUB.out, by simp; exact cntb_le _ _, (fun j hj => by
              obtain ⟨b, off, h1, h2, _⟩ := hs j hj
              exact ⟨b, off, h1, Nat.lt_of_lt_of_le h2 (bl_a (bl_t H1.out.1 hb15) _).size, .inl h2⟩), bl_a (bl_t H1.out.1 hb15) _⟩
          have HI0 := Lib.hid hI0
          clear hI0
          go_wp2
          clear hra hrs4 hb15 hb14 hb13 hr2 hb2 hb3 hb4 hg0 hg1 p0 p1 f0 f1 hneb
          rw [← hw6]
          clear hw6
          go_loopw [8, 9] (fun v p wr => ∃ k left zs, p = .pointer (some ⟨k, 0, none⟩) ∧ wr.ownsRow (w.heap.size + 2) 3 1 v (zs : List Int).length (encI zs) ∧ CovI n l s B d w wr k left zs) (fun v _ _ => n - lenOf v)
          case atStart => exact ⟨_, s, [], rfl, World.ownsRow_nil _ _ _ _, HI0.out⟩
          case round =>
            obtain ⟨k, left, zs, rfl, hown, hI⟩ := hrel
            have hC := count_any left.sz left.A left.c left.ws wr hI.rd hI.fit.ok.lt (by have := hI.fit.ok.len; omega)
            rw [cn_fit hI.fit hn4] at hC
            obtain ⟨c, hc⟩ : ∃ c, c = cntb (mem left.ws) n := ⟨_, rfl⟩
            rw [← hc] at hC
            obtain ⟨p0, p1, f0, f1, hgk⟩ := blk2 hI.box
            have HC := Lib.hid hC
            have HI := Lib.hid hI
            have HCC := Lib.hid hc
            have HOWN := Lib.hid hown
            clear hC hI hc hown
            by_cases hpos : 0 < c
            · have hd : decide ((c : Int) > 0) = true := by simp; omega
              go_wp2_with fail
              refine HC.out.mono ?_
              rintro x w7 ⟨rfl, hb7⟩
              have hI7 := HI.out.below hb7
              obtain ⟨q0, q1, r0, r1, hgt⟩ := blk2 hI7.tab
              have HI7 := Lib.hid hI7
              have HB7 := Lib.hid hb7
              clear hI7 hb7 p0 p1 f0 f1
              go_wp2
              go_loopw [49, 10, 11] (fun i b m wq => ∃ j : Nat, i = .int .i64 j ∧ j ≤ l.length ∧ b = .int .i64 (bst (gS l) (mem left.ws) n j).1 ∧ m = .int .i64 (bst (gS l) (mem left.ws) n j).2 ∧ Below w7.heap.size w7 wq) (fun i _ _ _ => l.length - (intOf i).toNat)
              case atStart => exact ⟨0, rfl, Nat.zero_le _, rfl, rfl, Below.refl _ _⟩
              case round =>
                obtain ⟨j, rfl, hj, rfl, rfl, hbq⟩ := hrel
                have hIq := HI7.out.below hbq
                by_cases hlt2 : j < l.length
                · obtain ⟨b, off, rfl, hblt, h1, h2, h3⟩ := (hl.below hIq.bel) j hlt2
                  have hfx := HFIT.out _ (sd_mem hlt2)
                  obtain ⟨x, hx⟩ : ∃ x, x = sd l j := ⟨_, rfl⟩
                  rw [← hx] at h1 h2 h3 hfx
                  have hTW := fun W h1 h2 => two_any bop_and 44 and_any left x W h1 h2 hIq.fit.ok hfx.ok
                  rw [tw_fit _ hIq.fit hfx hn4] at hTW
                  have hbs : bst (gS l) (mem left.ws) n (j + 1) = if (bst (gS l) (mem left.ws) n j).2 < cntb (fun e => mem left.ws e && mem x.ws e) n then (j, cntb (fun e => mem left.ws e && mem x.ws e) n) else bst (gS l) (mem left.ws) n j := by rw [bst, hx]; rfl
                  obtain ⟨bb, hbb⟩ : ∃ bb, bb = (bst (gS l) (mem left.ws) n j).1 := ⟨_, rfl⟩
                  obtain ⟨mm, hmm⟩ : ∃ mm, mm = (bst (gS l) (mem left.ws) n j).2 := ⟨_, rfl⟩
                  obtain ⟨p0, p1, f0, f1, hgk⟩ := blk2 hIq.box
                  have HTW := Lib.hid hTW
                  have HIQ := Lib.hid hIq
                  have HBS := Lib.hid hbs
                  have HB := Lib.hid (And.intro hbb hmm)
                  have HX := Lib.hid hx
                  have HFX := Lib.hid hfx
                  rw [← hbb, ← hmm]
                  clear hbb hmm hTW hIq hbs hx hfx
                  go_wp2_with fail
                  refine (HTW.out _ (HIQ.out.rd.below (bl_a (Below.refl _ _) _)) (h3.below (bl_a (Below.refl _ _) _))).mono ?_
                  intro y w8 hp
                  obtain ⟨a2, e2, rfl, ha, hb8⟩ := hp.out
                  obtain ⟨ha1, ha2, ha3, rfl⟩ := ha
                  have hfa2 : Fit n a2 := ⟨ha1, ha3.self, ha3.lt, ha2.nil, by rw [ha3.len, nw_eq]; omega, ha2.cap⟩
                  have hC2 := fun W h => count_any a2.sz a2.A a2.c a2.ws W h ha3.lt (by rw [ha3.len, nw_eq]; omega)
                  rw [cn_fit hfa2 hn4, cntb_congr (g := fun e => mem left.ws e && mem x.ws e) (fun e he => by rw [ha3.has]; simp [he])] at hC2
                  obtain ⟨cc, hcc⟩ : ∃ cc, cc = cntb (fun e => mem left.ws e && mem x.ws e) n := ⟨_, rfl⟩
                  rw [← hcc] at hC2
                  have hra2 := ha2.rd
                  have HC2 := Lib.hid hC2
                  have HCC2 := Lib.hid hcc
                  have HB8 := Lib.hid (bl_a (bl_t (bl_a hbq (.cells #[.int .i64 x.sz, .slice x.A x.ws.length x.c] 24)) hb8) (.cells #[.int .i64 a2.sz, .slice a2.A a2.ws.length a2.c] 24))
                  obtain ⟨b0, b1, b2, b3, hg2⟩ := blk2 (ha_new w8 (.cells #[.int .i64 a2.sz, .slice a2.A a2.ws.length a2.c] 24) _ rfl)
                  clear hp ha1 ha2 ha3 hfa2 hC2 hcc hb8 p0 p1 f0 f1 h1 h2 h3
                  go_wp2_with fail
                  refine (HC2.out _ (hra2.below (bl_a (Below.refl _ _) _))).mono ?_
                  rintro y w9 ⟨rfl, hb9⟩
                  clear b0 b1 b2 b3 hg2 hra2
                  by_cases hbig : mm < cc
                  · have hd2 : decide ((cc : Int) > (mm : Int)) = true := by simp; omega
                    have HG := Lib.hid hbig
                    go_wp2
                    go_roundw
                    case rel =>
                      have e : bst (gS l) (mem left.ws) n (j + 1) = (j, cc) := by rw [HBS.out, ← HB.out.2, ← HCC2.out, if_pos HG.out]
                      exact ⟨j + 1, by go_num, by omega, by rw [e], by rw [e], bl_t HB8.out hb9⟩
                    case measure => simp [intOf]; omega
                  · have hd2 : decide ((cc : Int) > (mm : Int)) = false := by simp; omega
                    have HG := Lib.hid hbig
                    go_wp2
                    go_roundw
                    case rel =>
                      have e : bst (gS l) (mem left.ws) n (j + 1) = bst (gS l) (mem left.ws) n j := by rw [HBS.out, ← HB.out.2, ← HCC2.out, if_neg HG.out]
                      exact ⟨j + 1, by go_num, by omega, by rw [e, ← HB.out.1], by rw [e, ← HB.out.2], bl_t HB8.out hb9⟩
                    case measure => simp [intOf]; omega
                · obtain rfl : j = l.length := by omega
                  have hbp := bst_pos hIq.sub (by rw [← HCC.out]; exact hpos)
                  obtain ⟨hbl, hbc⟩ := (bst_lt (gS l) (mem left.ws) n l.length).2 hbp
                  have hownq := own_below HOWN.out (bl_t HB7.out hbq)
                  have hbel := hIq.bel
                  have hszq := hIq.bel.size
                  have hbk := blk_lt hIq.box
                  have hlow := hIq.low
                  have hfew : zs.length + 1 ≤ 4096 := by have := hIq.few; rw [← HCC.out] at this; omega
                  have HIQ := Lib.hid hIq
                  have HPB := Lib.hid (And.intro hbp (And.intro hbl hbc))
                  have hownbase := own_base hownq
                  obtain ⟨bb, hbb⟩ : ∃ bb, bb = (bst (gS l) (mem left.ws) n l.length).1 := ⟨_, rfl⟩
                  rw [← hbb] at hbl
                  rw [← hbb]
                  have HBB := Lib.hid hbb
                  clear hIq hbp hbc hbb hownbase
                  go_wp2_with (at_builtin; refine app1 (w0 := w) (w.heap.size + 2) rfl _ _ _ 3 (.int .i64 0) 1 8 rfl Try.underlying38 info_int rfl (by decide) (by decide) u8 zs.length (encI zs) [.int .i64 bb] rfl _ rfl (by simp) rfl (by simp [Value.oneCell']) hownq hbel (by omega) (by omega) (by omega) ?_; intro v1 w8 ho8 hb8 hg8)
                  have hI8 := HIQ.out.grown hownq hg8 hb8
                  obtain ⟨b, off, rfl, hblt, h1, h2, h3⟩ := (hl.below hb8) bb hbl
                  have hfx := HFIT.out _ (sd_mem hbl)
                  obtain ⟨x, hx⟩ : ∃ x, x = sd l bb := ⟨_, rfl⟩
                  rw [← hx] at h1 h2 h3 hfx
                  have hMI := fun W (hW : Below w8.heap.size w8 W) => minus_any left x W (hI8.rd.below hW) (h3.below hW) hI8.fit.ok hfx.ok
                  rw [tw_fit _ hI8.fit hfx hn4] at hMI
                  have HMI := Lib.hid hMI
                  have HX := Lib.hid hx
                  have HI8 := Lib.hid hI8
                  have HO8 := Lib.hid ho8
                  have hi0 : (0 : Int) ≤ (bb : Int) := by omega
                  have hi1 : (bb : Int) < (l.length : Int) := by omega
                  obtain ⟨p0, p1, f0, f1, hgk⟩ := blk2 hI8.box
                  obtain ⟨q0, q1, r0, r1, hgt⟩ := blk2 hI8.tab
                  have hbk8 := blk_lt hI8.box
                  have HBK := Lib.hid (fun W (hW : Below w8.heap.size w8 W) => (hW.block _ (blk_lt hI8.box)).trans hI8.box)
                  clear hMI hx hI8 ho8 hownq hbel hg8 hfx h3
                  go_region_with (go_at_call 23; refine (HMI.out _ (by first | exact Below.refl _ _ | exact bl_d (Below.refl _ _) | exact bl_dn (Below.refl _ _) _)).mono ?_; intro y w9 hp; obtain ⟨a3, e3, rfl, ha3, hb9⟩ := hp.out; obtain ⟨g1, g2, g3, rfl⟩ := ha3; have hbk9 := bl_t (by first | exact Below.refl w8.heap.size w8 | exact bl_d (Below.refl w8.heap.size w8) | exact bl_dn (Below.refl w8.heap.size w8) _) hb9; have HG3 := Lib.hid (And.intro g1 (And.intro g2 g3)); obtain ⟨t0, t1, v0, v1', hk9⟩ := blk2 (HBK.out _ hbk9); clear hp g1 g2 g3)
                  all_goals
                    have hbx9 := HBK.out _ hbk9
                    have hbxz : ((w9.setCell ⟨k, 0, none⟩ (.int .i64 a3.sz)).setCell ⟨k, 1, none⟩ (.slice a3.A a3.ws.length a3.c)).heap[k]? = some (.cells #[.int .i64 a3.sz, .slice a3.A a3.ws.length a3.c] 24 (0, 0)) := hs_same (hs_same hbx9 0 _) 1 _
                    obtain ⟨z0, z1, zf0, zf1, hgz⟩ := blk2 hbxz
                    have HB9 := Lib.hid hbk9
                    have hown9 := own_below HO8.out hbk9
                    have hownz := (own_setne (own_setne hown9 (p := ⟨k, 0, none⟩) (own_neT hown9 hbx9 (by decide)) (.int .i64 a3.sz)) (p := ⟨k, 1, none⟩) (own_neT hown9 hbx9 (by decide)) (.slice a3.A a3.ws.length a3.c)).alloc (.cells #[.int .i64 a3.sz, .slice a3.A a3.ws.length a3.c] 24)
                    have hI9 := HI8.out.below hbk9
                    have hN := hI9.next (a := a3) (x0 := .int .i64 a3.sz) (x1 := .slice a3.A a3.ws.length a3.c) ⟨HG3.out.1, HG3.out.2.2.self, HG3.out.2.2.lt, HG3.out.2.1.nil, by rw [HG3.out.2.2.len, nw_eq]; omega, HG3.out.2.1.cap⟩ HG3.out.2.1.rd (fun p hp => (HG3.out.2.1.own p hp).2.2.2) (fun e => by rw [HG3.out.2.2.has e, HX.out]; rfl) HBB.out HPB.out.1 HPB.out.2.2
                    have HN := Lib.hid (And.intro hownz hN)
                    clear hbk9 hbx9 hbxz hown9 hownz hI9 hN hb9 t0 t1 v0 v1'
                    go_wp2
                    go_roundw
                    case rel => exact ⟨_, a3, zs ++ [(bb : Int)], rfl, by simpa [encI] using HN.out.1, HN.out.2⟩
                    case measure =>
                      have e1 := own_lenOf HOWN.out
                      have e2 := own_lenOf HO8.out
                      have e3 := HIQ.out.few
                      rw [← HCC.out] at e3
                      show n - lenOf v1 < n - lenOf u8
                      omega
            · have hd : decide ((c : Int) > 0) = false := by simp; omega
              have HZ := Lib.hid hpos
              go_wp2_with fail
              refine HC.out.mono ?_
              rintro x w7 ⟨rfl, hb7⟩
              clear p0 p1 f0 f1
              obtain ⟨A', c', rfl, g1, g2, g3⟩ := own_rdZ (own_below HOWN.out hb7)
              have hfew := HI.out.few
              have hcv := HI.out.cov [] (Cov.done (by rw [← HCC.out]; have := HZ.out; omega))
              rw [List.append_nil] at hcv
              have HCV := Lib.hid hcv
              clear hcv
              have hz : covE n l s = 0 := by rw [HE.out, if_neg (by rw [HUB.out]; simp)]
              have HZE := Lib.hid hz
              clear hz
              go_wp2
              go_ret2
              exact ⟨bl_t HI.out.bel hb7, A', c', zs, by rw [HZE.out]; rfl, g2, by omega, fun _ => HCV.out, fun h => absurd HZE.out h⟩
      · have HP : Hid (covE size l s = 60) := by
          unfold Hid covE
          rw [if_neg (by rw [HT.out, HS.out]; simp), if_pos hsz]
        have hne : (size != s.sz) = true := by rw [bne_iff_ne]; exact hsz
        clear hsz
        go_enter Try.func13, Try.ntmps13
        go_wp2_with fail
        refine HMT.out.mono ?_
        rw [← hw1]
        rintro x w2 ⟨rfl, hb2⟩
        obtain ⟨p0, p1, f0, f1, hg0⟩ := blk2 ((hb2.block _ (blk_lt H1.out.2.2)).trans H1.out.2.2)
        have hr2 := hs.below (bl_t H1.out.1 hb2)
        go_wp2_with fail
        refine (HMS.out _ hr2).mono ?_
        rintro x w3 ⟨rfl, hb3⟩
        clear p0 p1 f0 f1 hg0
        have hb13 := bl_t hb2 hb3
        obtain ⟨p0, p1, f0, f1, hg0⟩ := blk2 ((hb13.block _ (blk_lt H1.out.2.2)).trans H1.out.2.2)
        obtain ⟨q0, q1, r0, r1, hg1⟩ := blk2 ((hb13.block _ (blk_lt H1.out.2.1)).trans H1.out.2.1)
        go_wp2
        go_ret2
        exact CovPost.err HP.out (by decide) (bl_t H1.out.1 hb13)
end Go.Proofs.Ytlmjfcieiengcaa
