/- sloperef3.Cover answers as bitset.Cover. The words are words; the lengths are ones that slices can have. -/
import Derived.Test.YtlmjfcieiengcaaCover
import Derived.Test.YtlmjfcieiengcaaRList
namespace Go.Proofs.Ytlmjfcieiengcaa
open Go.RowKit
/-- what is held while the document's side picks -/
structure RCovI (n : Nat) (l : List SV) (s : SV) (B : Option Addr) (d : Nat) (w wr : World) (g : Nat) (f : Nat → Bool) (zs : List Int) : Prop where
  tab : wr.heap[w.heap.size]? = some (.cells #[.int .i64 n, .slice B l.length d] 35 (0, 0))
  want : BB wr g (bools f n)
  low : w.heap.size + 2 ≤ g
  cov : ∀ out, Cov (gS l) n l.length f out → Cov (gS l) n l.length (mem s.ws) (zs ++ out)
  sub : ∀ e, e < n → f e = true → mem s.ws e = true
  rest : ∀ e, e < n → mem s.ws e = true → f e = false → ∃ j, j < l.length ∧ gS l j e = true
  few : zs.length + cntb f n ≤ n
  bel : Below w.heap.size w wr
theorem RCovI.below {n : Nat} {l : List SV} {s : SV} {B : Option Addr} {d : Nat} {w wr wq : World} {g : Nat} {f : Nat → Bool} {zs : List Int} (h : RCovI n l s B d w wr g f zs) (hb : Below wr.heap.size wr wq) : RCovI n l s B d w wq g f zs :=
  ⟨(hb.block _ (blk_lt h.tab)).trans h.tab, h.want.below hb, h.low, h.cov, h.sub, h.rest, h.few, bl_t h.bel hb⟩
set_option maxRecDepth 100000 in
set_option maxHeartbeats 10000000 in
theorem rcover_any (size : Int) (B : Option Addr) (d : Nat) (l : List SV) (s : SV) (w : World) (hl : RdS w B l) (hok : ∀ s ∈ l, s.Ok) (hn : l.length ≤ 9223372036854775807) (hs : Rd w s.A s.ws) (hso : s.Ok) :
    Calls Try.prog 14 #[.agg #[.int .i64 size, .slice B l.length d], .agg #[.int .i64 s.sz, .slice s.A s.ws.length s.c]] w (CovPost size l s w) := by
  obtain ⟨w1, hw1⟩ : ∃ w1, w1 = (w.alloc (.cells #[.int .i64 size, .slice B l.length d] 35)).alloc (.cells #[.int .i64 s.sz, .slice s.A s.ws.length s.c] 24) := ⟨_, rfl⟩
  have hbl1 : Below w.heap.size w w1 := by rw [hw1]; exact bl_a (bl_a (Below.refl _ _) _) _
  have hbt1 : w1.heap[w.heap.size]? = some (.cells #[.int .i64 size, .slice B l.length d] 35 (0, 0)) := by rw [hw1]; exact (ha_old _ _ _ (by simp)).trans (ha_new _ _ _ rfl)
  have hbs1 : w1.heap[w.heap.size + 1]? = some (.cells #[.int .i64 s.sz, .slice s.A s.ws.length s.c] 24 (0, 0)) := by rw [hw1]; exact ha_new _ _ _ (by simp)
  have HMT := Lib.hid (rmaytable_any size B d l w1 (hl.below hbl1) hok hn)
  have HMS := Lib.hid (fun W hW => rmay_any s.sz s.A s.c s.ws W hW hso.lt (by have := hso.len; omega))
  have H1 := Lib.hid (And.intro hbl1 (And.intro hbt1 hbs1))
  rw [hw1] at HMT
  clear hbl1 hbt1 hbs1
  cases hmt : mtB size l with
  | false =>
    have HP : Hid (covE size l s = 61) := by unfold Hid covE; rw [if_pos (.inl hmt)]
    rw [hmt] at HMT
    clear hmt
    go_enter Try.func14, Try.ntmps14
    go_wp2_with fail
    refine HMT.out.mono ?_
    rw [← hw1]
    rintro x w2 ⟨rfl, hb2⟩
    go_wp2
    go_ret2
    exact CovPost.err HP.out (by decide) (bl_t H1.out.1 hb2)
  | true =>
    have HT := Lib.hid hmt
    rw [hmt] at HMT
    clear hmt
    cases hms : mayB s.sz s.ws with
    | false =>
      have HP : Hid (covE size l s = 61) := by unfold Hid covE; rw [if_pos (.inr hms)]
      rw [hms] at HMS
      clear hms
      go_enter Try.func14, Try.ntmps14
      go_wp2_with fail
      refine HMT.out.mono ?_
      rw [← hw1]
      rintro x w2 ⟨rfl, hb2⟩
      obtain ⟨p0, p1, f0, f1, hg0⟩ := blk2 ((hb2.block _ (blk_lt H1.out.2.2)).trans H1.out.2.2)
      have hr2 := hs.below (bl_t H1.out.1 hb2)
      go_wp2_with fail
      refine (HMS.out _ hr2).mono ?_
      rintro x w3 ⟨rfl, hb3⟩
      clear p0 p1 f0 f1
      go_wp2
      go_ret2
      exact CovPost.err HP.out (by decide) (bl_t (bl_t H1.out.1 hb2) hb3)
    | true =>
      rw [hms] at HMS
      have HS := Lib.hid hms
      clear hms
      by_cases hsz : size = s.sz
      · obtain ⟨hl4, hf0⟩ := mtB_true HT.out
        obtain ⟨hfm, hszB, hfs⟩ := fitE_zero hf0
        obtain ⟨n, hn0, hn4⟩ : ∃ n : Nat, size = n ∧ n ≤ 4096 := by
          unfold szB at hszB
          simp at hszB
          exact ⟨size.toNat, by omega, by omega⟩
        subst hn0
        have hfit : ∀ a ∈ l, Fit n a := fun a ha => fit_of_may (hfm a ha) (hfs a ha) (hok a ha)
        have hfs' : Fit n s := fit_of_may HS.out hsz.symm hso
        have hneb : ((n : Int) != s.sz) = false := by rw [bne_eq_false_iff_eq]; exact hsz
        have HE : Hid (covE n l s = if uB l n (mem s.ws) = false then 321 else 0) := by
          unfold Hid covE
          rw [if_neg (by rw [HT.out, HS.out]; simp), if_neg (by simpa using hsz)]
          rfl
        have hLI := fun W hW => list_any n s.A s.c s.ws W hW hso.lt hfs'.ws.len hn4
        have hEL := fun W hW => relem_any s.sz s.A s.c s.ws W hW hso.lt (by have := hso.len; omega)
        have hlen : (lsts s.sz s.ws).length = cntb (mem s.ws) n := by
          unfold lsts
          rw [if_pos HS.out, lst_length, cnt_cntb, ← hsz]
          rfl
        rw [hsz] at hLI
        have HLI := Lib.hid hLI
        have HEL := Lib.hid hEL
        have HLEN := Lib.hid hlen
        have HFIT := Lib.hid hfit
        have HFS := Lib.hid hfs'
        clear hsz hf0 hfm hszB hfs hfit hfs' hLI hEL hlen
        go_enter Try.func14, Try.ntmps14
        go_wp2_with fail
        refine HMT.out.mono ?_
        rw [← hw1]
        rintro x w2 ⟨rfl, hb2⟩
        obtain ⟨p0, p1, f0, f1, hg0⟩ := blk2 ((hb2.block _ (blk_lt H1.out.2.2)).trans H1.out.2.2)
        have hr2 := hs.below (bl_t H1.out.1 hb2)
        go_wp2_with fail
        refine (HMS.out _ hr2).mono ?_
        rintro x w3 ⟨rfl, hb3⟩
        clear p0 p1 f0 f1 hg0
        have hb13 := bl_t hb2 hb3
        obtain ⟨p0, p1, f0, f1, hg0⟩ := blk2 ((hb13.block _ (blk_lt H1.out.2.2)).trans H1.out.2.2)
        obtain ⟨q0, q1, r0, r1, hg1⟩ := blk2 ((hb13.block _ (blk_lt H1.out.2.1)).trans H1.out.2.1)
        have hr3 := hs.below (bl_t H1.out.1 hb13)
        go_wp2_with fail
        refine (HLI.out _ hr3).mono ?_
        rintro x w4 ⟨g, rfl, hg, hbb, hb4⟩
        clear p0 p1 f0 f1 q0 q1 r0 r1
        have hb14 := bl_t hb13 hb4
        obtain ⟨p0, p1, f0, f1, hg2⟩ := blk2 ((hb14.block _ (blk_lt H1.out.2.2)).trans H1.out.2.2)
        go_wp2_with fail
        refine (HEL.out _ (hs.below (bl_t H1.out.1 hb14))).mono ?_
        rintro x w5 ⟨A5, c5, rfl, _, _, _, _, hb5⟩
        clear p0 p1 f0 f1
        rw [HLEN.out]
        have hI0 : RCovI n l s B d w w5 g (mem s.ws) [] :=
          ⟨((bl_t hb14 hb5).block _ (blk_lt H1.out.2.1)).trans H1.out.2.1, hbb.below hb5, by have := blk_lt H1.out.2.2; have := hb13.size; omega, fun _ h => h, fun _ _ h => h, (fun e _ h1 h2 => by rw [h1] at h2; cases h2), by simp; exact cntb_le _ _, bl_t H1.out.1 (bl_t hb14 hb5)⟩
        have HI0 := Lib.hid hI0
        clear hI0 hb5 hb14 hb4 hbb hg hb13 hb3 hb2 hr2 hr3 hneb
        go_wp2
        go_loopw [6, 8] (fun v c wr => ∃ (f : Nat → Bool) (zs : List Int), c = .int .i64 (cntb f n : Nat) ∧ wr.ownsRow (w.heap.size + 2) 3 1 v zs.length (encI zs) ∧ RCovI n l s B d w wr g f zs) (fun _ c _ => (intOf c).toNat)
        case atStart => exact ⟨_, [], rfl, World.ownsRow_nil _ _ _ _, HI0.out⟩
        case round =>
          obtain ⟨f, zs, rfl, hown, hI⟩ := hrel
          obtain ⟨c, hc⟩ : ∃ c, c = cntb f n := ⟨_, rfl⟩
          rw [← hc]
          obtain ⟨q0, q1, r0, r1, hgt⟩ := blk2 hI.tab
          have HI := Lib.hid hI
          have HCC := Lib.hid hc
          have HOWN := Lib.hid hown
          clear hI hc hown
          by_cases hpos : 0 < c
          · have hd : decide ((c : Int) > 0) = true := by simp; omega
            have hbr := HI.out.bel
            go_wp2
            go_loopw [11, 10, 9] (fun i m b wq => ∃ j : Nat, i = .int .i64 j ∧ j ≤ l.length ∧ m = .int .i64 (bst (gS l) f n j).2 ∧ b = .int .i64 (if (bst (gS l) f n j).2 = 0 then -1 else ((bst (gS l) f n j).1 : Int)) ∧ Below wr.heap.size wr wq) (fun i _ _ _ => l.length - (intOf i).toNat)
            case atStart => exact ⟨0, rfl, Nat.zero_le _, rfl, rfl, Below.refl _ _⟩
            case round =>
              obtain ⟨j, rfl, hj, rfl, rfl, hbq⟩ := hrel
              have hIq := HI.out.below hbq
              clear q0 q1 r0 r1 hgt
              obtain ⟨q0, q1, r0, r1, hgt⟩ := blk2 hIq.tab
              obtain ⟨mm, hmm⟩ : ∃ mm, mm = (bst (gS l) f n j).2 := ⟨_, rfl⟩
              obtain ⟨bz, hbz⟩ : ∃ bz : Int, bz = if (bst (gS l) f n j).2 = 0 then -1 else ((bst (gS l) f n j).1 : Int) := ⟨_, rfl⟩
              rw [← hbz, ← hmm]
              have HIQ := Lib.hid hIq
              have HMM := Lib.hid hmm
              have HBZ := Lib.hid hbz
              clear hIq hmm hbz
              by_cases hlt2 : j < l.length
              · obtain ⟨b, off, rfl, hblt, h1, h2, h3⟩ := (hl.below HIQ.out.bel) j hlt2
                have hfx := HFIT.out _ (sd_mem hlt2)
                obtain ⟨x, hx⟩ : ∃ x, x = sd l j := ⟨_, rfl⟩
                rw [← hx] at h1 h2 h3 hfx
                have hFR := fresh_any n x.A x.c x.ws (some ⟨g, 0, none⟩) n f wr h3 hfx.ok.lt hfx.ws.len hn4 HIQ.out.want.rd
                have hbs : bst (gS l) f n (j + 1) = if (bst (gS l) f n j).2 < cntb (fun e => f e && mem x.ws e) n then (j, cntb (fun e => f e && mem x.ws e) n) else bst (gS l) f n j := by rw [bst, hx]; rfl
                obtain ⟨cc, hcc⟩ : ∃ cc, cc = cntb (fun e => f e && mem x.ws e) n := ⟨_, rfl⟩
                rw [← hcc] at hFR hbs
                rw [← hfx.sz] at hFR
                have HFR := Lib.hid hFR
                have HBS := Lib.hid hbs
                clear hFR hbs hx hcc hfx
                go_wp2_with fail
                refine HFR.out.mono ?_
                rintro y w9 ⟨rfl, hb9⟩
                clear q0 q1 r0 r1 hgt h1 h2 h3
                by_cases hbig : mm < cc
                · have hd2 : decide ((cc : Int) > (mm : Int)) = true := by simp; omega
                  have HG := Lib.hid hbig
                  go_wp2
                  go_roundw
                  case rel =>
                    have e : bst (gS l) f n (j + 1) = (j, cc) := by rw [HBS.out, ← HMM.out, if_pos HG.out]
                    exact ⟨j + 1, by go_num, by omega, by rw [e], by rw [e, if_neg (by have := HG.out; omega)], bl_t hbq hb9⟩
                  case measure => simp [intOf]; omega
                · have hd2 : decide ((cc : Int) > (mm : Int)) = false := by simp; omega
                  have HG := Lib.hid hbig
                  go_wp2
                  go_roundw
                  case rel =>
                    have e : bst (gS l) f n (j + 1) = bst (gS l) f n j := by rw [HBS.out, ← HMM.out, if_neg HG.out]
                    exact ⟨j + 1, by go_num, by omega, by rw [e, ← HMM.out], by rw [e, ← HBZ.out], bl_t hbq hb9⟩
                  case measure => simp [intOf]; omega
              · obtain rfl : j = l.length := by omega
                by_cases hb0 : mm = 0
                · have hbz : bz = -1 := by rw [HBZ.out, if_pos (by rw [← HMM.out]; exact hb0)]
                  subst hbz
                  have hu : uB l n (mem s.ws) = false := by
                    obtain ⟨e, he, h1, h2⟩ := bst_none (by rw [← HCC.out]; exact hpos) (by rw [← HMM.out]; exact hb0)
                    apply Bool.eq_false_iff.2
                    intro h
                    obtain ⟨j, hj, h3⟩ := uB_iff.1 h e he (HIQ.out.sub e he h1)
                    rw [h2 j hj] at h3
                    cases h3
                  have HP : Hid (covE n l s = 321) := by unfold Hid; rw [HE.out, if_pos hu]
                  clear hu hb0
                  go_wp2
                  go_ret2
                  exact CovPost.err HP.out (by decide) HIQ.out.bel
                · obtain ⟨bb, hbb⟩ : ∃ bb, bb = (bst (gS l) f n l.length).1 := ⟨_, rfl⟩
                  have hbz : bz = (bb : Int) := by rw [HBZ.out, if_neg (by rw [← HMM.out]; exact hb0), ← hbb]
                  subst hbz
                  have hbp : 0 < (bst (gS l) f n l.length).2 := by rw [← HMM.out]; omega
                  obtain ⟨hbl, hbc⟩ := (bst_lt (gS l) f n l.length).2 hbp
                  rw [← hbb] at hbl hbc
                  have hsp := cntb_split f (gS l bb) n
                  rw [hbc, ← HMM.out, ← HCC.out] at hsp
                  have hownq := own_below HOWN.out hbq
                  have hbel := HIQ.out.bel
                  have hszq := hbel.size
                  have hlow := HIQ.out.low
                  have hgl := HIQ.out.want.lt
                  have hfew : zs.length + 1 ≤ 4096 := by have := HIQ.out.few; rw [← HCC.out] at this; omega
                  have hneg : decide ((bb : Int) < 0) = false := by simp
                  have hc4 : c ≤ 4096 := by rw [HCC.out]; exact Nat.le_trans (cntb_le _ _) hn4
                  have hmc : mm ≤ c := by omega
                  have HSP := Lib.hid hsp
                  have HBB := Lib.hid hbb
                  have HBP := Lib.hid hbp
                  clear hbp hbc hbb hsp
                  go_wp2_with (at_builtin; refine app1 (w0 := w) (w.heap.size + 2) rfl _ _ _ 3 (.int .i64 0) 1 8 rfl Try.underlying38 info_int rfl (by decide) (by decide) u6 zs.length (encI zs) [.int .i64 bb] rfl _ rfl (by simp) rfl (by simp [Value.oneCell']) hownq hbel (by omega) (by omega) (by omega) ?_; intro v1 w8 ho8 hb8 hg8)
                  have htab8 := blk_grown HIQ.out.tab hg8 (own_neT hownq HIQ.out.tab (by decide))
                  have hwant8 : BB w8 g (bools f n) := HIQ.out.want.grown hg8 (by
                    obtain ⟨sp, h⟩ := HIQ.out.want
                    exact own_neT hownq h (by decide))
                  have hHB := hbl
                  clear hownq hbel hg8 q0 q1 r0 r1 hgt
                  go_loopw [13] (fun i wq => ∃ (e : Nat) (L : List Bool), e ≤ n ∧ i = .int .i64 e ∧ L.length = n ∧ (∀ j, j < e → bd L j = (f j && !gS l bb j)) ∧ (∀ j, e ≤ j → j < n → bd L j = f j) ∧ BB wq g L ∧ wq.heap[w.heap.size]? = some (.cells #[.int .i64 n, .slice B l.length d] 35 (0, 0)) ∧ wq.ownsRow (w.heap.size + 2) 3 1 v1 (zs.length + 1) (encI zs ++ [.int .i64 bb]) ∧ Below w.heap.size w wq) (fun i _ => n - (intOf i).toNat)
                  case atStart => exact ⟨0, bools f n, Nat.zero_le _, rfl, bools_length _ _, fun j h => by omega, fun j _ h => bd_bools _ _ _ h, hwant8, htab8, ho8, hb8⟩
                  case round =>
                    obtain ⟨e, L, hen, rfl, hLl, hL1, hL2, hLB, htab, hown3, hb3⟩ := hrel
                    clear htab8 hwant8
                    obtain ⟨q0, q1, r0, r1, hgt⟩ := blk2 htab
                    have HL := Lib.hid (And.intro hLl (And.intro hL1 hL2))
                    have HO3 := Lib.hid (And.intro htab hown3)
                    clear hLl hL1 hL2 htab hown3
                    by_cases hlt2 : e < n
                    · obtain ⟨b, off, rfl, hblt, h1, h2, h3⟩ := (hl.below hb3) bb hbl
                      have hfx := HFIT.out _ (sd_mem hbl)
                      have hc3 := hLB.cell (j := e) (by rw [HL.out.1]; exact hlt2)
                      have hz3 := hLB.frozen e
                      have hin := rin_any (sd l bb).sz (sd l bb).A (sd l bb).c e (sd l bb).ws wr h3 hfx.ok.lt (by rw [hfx.ws.len, nw_eq]; omega) (by rw [hfx.ws.len, nw_eq]; omega)
                      obtain ⟨x, hx⟩ : ∃ x, x = sd l bb := ⟨_, rfl⟩
                      rw [← hx] at h1 h2 h3 hin
                      have hi0 : (0 : Int) ≤ (bb : Int) := by omega
                      have hi1 : (bb : Int) < (l.length : Int) := by omega
                      have hj0 : (0 : Int) ≤ (e : Int) := by omega
                      have hj1 : (e : Int) < (n : Int) := by omega
                      have hgS : gS l bb e = mem x.ws e := by rw [hx]; rfl
                      cases hme : mem x.ws e with
                      | false =>
                        rw [hme] at hin hgS
                        have HIN := Lib.hid hin
                        have HGS := Lib.hid hgS
                        have HLB := Lib.hid hLB
                        clear hin hx hfx hgS hme hLB
                        go_wp2_with fail
                        refine HIN.out.mono ?_
                        rintro y w9 ⟨rfl, hb9⟩
                        clear q0 q1 r0 r1 hgt h1 h2 h3 hc3 hz3
                        go_wp2
                        go_roundw
                        case rel => exact ⟨e + 1, L, by omega, by go_num, HL.out.1, fun j hj => by
                          by_cases h : j = e
                          · subst h
                            rw [HL.out.2.2 j (Nat.le_refl _) hlt2, HGS.out]
                            simp
                          · exact HL.out.2.1 j (by omega), fun j h1 h2 => HL.out.2.2 j (by omega) h2, HLB.out.below hb9, (hb9.block _ (blk_lt HO3.out.1)).trans HO3.out.1, own_below HO3.out.2 hb9, bl_t hb3 hb9⟩
                        case measure => simp [intOf]; omega
                      | true =>
                        rw [hme] at hin hgS
                        have HIN := Lib.hid hin
                        have HGS := Lib.hid hgS
                        have HLB := Lib.hid hLB
                        clear hin hx hfx hgS hme hLB hc3 hz3
                        go_wp2_with fail
                        refine HIN.out.mono ?_
                        rintro y w9 ⟨rfl, hb9⟩
                        clear q0 q1 r0 r1 hgt h1 h2 h3
                        have hLB9 := HLB.out.below hb9
                        have hc9 := hLB9.cell (j := e) (by rw [HL.out.1]; exact hlt2)
                        have hz9 := hLB9.frozen e
                        have hg9 := hLB9.lt
                        have HL9 := Lib.hid hLB9
                        clear hLB9
                        go_wp2
                        go_roundw
                        case rel =>
                          have hown9 := own_below HO3.out.2 hb9
                          have hne : some g ≠ v1.ownBlock := by
                            obtain ⟨sp, h⟩ := HL9.out
                            exact own_neT hown9 h (by decide)
                          exact ⟨e + 1, L.set e false, by omega, by go_num, by rw [List.length_set]; exact HL.out.1, fun j hj => by
                            rw [bd_set _ _ _ _ (by rw [HL.out.1]; exact hlt2)]
                            by_cases h : j = e
                            · rw [if_pos h, h, HGS.out]
                              simp
                            · rw [if_neg h]
                              exact HL.out.2.1 j (by omega), fun j h1 h2 => by
                            rw [bd_set _ _ _ _ (by rw [HL.out.1]; exact hlt2), if_neg (by omega)]
                            exact HL.out.2.2 j (by omega) h2, HL9.out.set (by rw [HL.out.1]; exact hlt2) false, (hs_other _ _ _ _ (by show w.heap.size ≠ g; omega)).trans ((hb9.block _ (blk_lt HO3.out.1)).trans HO3.out.1), own_setne hown9 (p := ⟨g, e, none⟩) hne _, bl_s (bl_t hb3 hb9) (by show w.heap.size ≤ g; omega) _⟩
                        case measure => simp [intOf]; omega
                    · obtain rfl : e = n := by omega
                      have hLe : L = bools (fun j => f j && !gS l bb j) e := bools_ext HL.out.1 HL.out.2.1
                      subst hLe
                      have hc8 : cntb (fun j => f j && !gS l bb j) e = c - mm := by have := HSP.out; omega
                      have HC8 := Lib.hid hc8
                      have hmc : mm ≤ c := by have := HSP.out; omega
                      clear hc8
                      go_wp2
                      go_roundw
                      case rel =>
                        refine ⟨fun j => f j && !gS l bb j, zs ++ [(bb : Int)], by rw [HC8.out, Int.ofNat_sub hmc], by simpa [encI] using HO3.out.2, HO3.out.1, hLB, HI.out.low, fun out h => ?_, fun j hj h => ?_, fun j hj h1 h2 => ?_, ?_, hb3⟩
                        · rw [List.append_assoc]
                          have h4 := Cov.step (g := gS l) (m := l.length) HBP.out (by rw [← HBB.out]; exact h)
                          rw [← HBB.out] at h4
                          exact HI.out.cov _ h4
                        · simp at h
                          exact HI.out.sub j hj h.1
                        · cases hfj : f j with
                          | false => exact HI.out.rest j hj h1 hfj
                          | true =>
                            rw [hfj] at h2
                            simp at h2
                            exact ⟨bb, hHB, h2⟩
                        · have h5 := HI.out.few
                          rw [← HCC.out] at h5
                          rw [HC8.out, List.length_append, List.length_singleton]
                          omega
                      case measure =>
                        have h6 := HBP.out
                        rw [← HMM.out] at h6
                        simp [intOf]
                        omega
          · have hd : decide ((c : Int) > 0) = false := by simp; omega
            have hu : uB l n (mem s.ws) = true := by
              rw [uB_iff]
              intro e he h
              refine HI.out.rest e he h ?_
              apply Bool.eq_false_iff.2
              intro h2
              have := cntb_pos_of he h2
              rw [← HCC.out] at this
              omega
            have HZE : Hid (covE n l s = 0) := by unfold Hid; rw [HE.out, if_neg (by rw [hu]; simp)]
            have hcv := HI.out.cov [] (Cov.done (by rw [← HCC.out]; omega))
            rw [List.append_nil] at hcv
            have HCV := Lib.hid hcv
            have hfew := HI.out.few
            obtain ⟨A', c', rfl, g1, g2, g3⟩ := own_rdZ HOWN.out
            clear hcv hu
            go_wp2
            go_ret2
            exact ⟨HI.out.bel, A', c', zs, by rw [HZE.out]; rfl, g2, by omega, fun _ => HCV.out, fun h => absurd HZE.out h⟩
      · have HP : Hid (covE size l s = 60) := by
          unfold Hid covE
          rw [if_neg (by rw [HT.out, HS.out]; simp), if_pos hsz]
        have hne : (size != s.sz) = true := by rw [bne_iff_ne]; exact hsz
        clear hsz
        go_enter Try.func14, Try.ntmps14
        go_wp2_with fail
        refine HMT.out.mono ?_
        rw [← hw1]
        rintro x w2 ⟨rfl, hb2⟩
        obtain ⟨p0, p1, f0, f1, hg0⟩ := blk2 ((hb2.block _ (blk_lt H1.out.2.2)).trans H1.out.2.2)
        have hr2 := hs.below (bl_t H1.out.1 hb2)
        go_wp2_with fail
        refine (HMS.out _ hr2).mono ?_
        rintro x w3 ⟨rfl, hb3⟩
        clear p0 p1 f0 f1 hg0
        have hb13 := bl_t hb2 hb3
        obtain ⟨p0, p1, f0, f1, hg0⟩ := blk2 ((hb13.block _ (blk_lt H1.out.2.2)).trans H1.out.2.2)
        obtain ⟨q0, q1, r0, r1, hg1⟩ := blk2 ((hb13.block _ (blk_lt H1.out.2.1)).trans H1.out.2.1)
        go_wp2
        go_ret2
        exact CovPost.err HP.out (by decide) (bl_t H1.out.1 hb13)
end Go.Proofs.Ytlmjfcieiengcaa
