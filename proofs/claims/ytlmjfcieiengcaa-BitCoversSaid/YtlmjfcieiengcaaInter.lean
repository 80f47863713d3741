/- bitset.Inter, bitset.Rest; the statements' union and inter. The words are words; the lengths are ones that slices can have. -/
import Derived.Test.YtlmjfcieiengcaaUnion
namespace Go.Proofs.Ytlmjfcieiengcaa
open Go.RowKit
abbrev fAnd := fun x y : Bool => x && y
abbrev fOr := fun x y : Bool => x || y
abbrev fNot := fun x y : Bool => x && !y
abbrev fXor := fun x y : Bool => x ^^ y
set_option maxRecDepth 100000 in
set_option maxHeartbeats 4000000 in
theorem inter_any (size : Int) (B : Option Addr) (d : Nat) (l : List SV) (w : World) (hl : RdS w B l) (hok : ∀ s ∈ l, s.Ok) (hn : l.length ≤ 9223372036854775807) :
    Calls Try.prog 55 #[.int .i64 size, .slice B l.length d] w (SAP (unspec (fun x y => x && y) (fun _ => true) size l) w) := by
  have hbl0 := bl_a (Below.refl w.heap.size w) (.cells #[.int .i64 0, .slice none 0 0] 24)
  have hby0 : (w.alloc (.cells #[.int .i64 0, .slice none 0 0] 24)).heap[w.heap.size]? = some (.cells #[.int .i64 0, .slice none 0 0] 24 (0, 0)) := ha_new _ _ _ rfl
  have HFI := Lib.hid (fit_any size B d l _ (hl.below hbl0) hok hn)
  have HU : Hid (unspec (fun x y => x && y) (fun _ => true) size l = if fitE size l = 0 then .set size.toNat (ff (fun x y => x && y) l (fun _ => true) l.length) else .err (fitE size l)) := rfl
  by_cases hz : fitE size l = 0
  · rw [hz] at HFI
    have hsz := (fitE_zero hz).2.1
    obtain ⟨n, rfl⟩ : ∃ n : Nat, size = n := ⟨size.toNat, by unfold szB at hsz; simp at hsz; omega⟩
    have hn4 : n ≤ 4096 := by unfold szB at hsz; simp at hsz; omega
    have HZ := Lib.hid hz
    have HP : Hid (unspec (fun x y => x && y) (fun _ => true) n l = .set n (ff (fun x y => x && y) l (fun _ => true) l.length)) := by unfold Hid; rw [HU.out, if_pos hz]; rfl
    have hrg : rgspec n 0 n = .set n (fun e => decide ((0 : Int) ≤ e ∧ (e : Int) < n)) := by unfold rgspec; rw [if_neg (by rw [hsz]; simp)]; rfl
    have HRG := Lib.hid hrg
    clear hz hsz hrg
    go_enter Try.func55, Try.ntmps55
    go_wp2_with fail
    refine HFI.out.mono ?_
    rintro x w1 ⟨rfl, hb1⟩
    have hbl1 := bl_t hbl0 hb1
    have hby1 := (hb1.block _ (blk_lt hby0)).trans hby0
    go_wp2_with fail
    refine (range_any n 0 n _ (by omega)).mono ?_
    rw [HRG.out]
    rintro x w2 ⟨hb2, g, bs, rfl, hg0, hwb, hws⟩
    have h0 := blk_lt hby0
    have hg1 := hb1.size
    have hws1 := hws.congr (g := fun _ => true) (fun e he => by simp; omega)
    have hof := foldfit bop_and 44 and_any n (fun _ => true) B d l w1 (w2.alloc (.cells #[.int .i64 n, .slice (some ⟨g, 0, none⟩) bs.length bs.length] 24)) HZ.out (hl.below hbl1) hok hn (some ⟨g, 0, none⟩) bs.length bs ⟨(hwb.alloc _).rd, (fun h => by cases h), Nat.le_refl _, fun a h => by injection h with h; subst h; exact ⟨hg0, rfl, rfl, hwb.alloc _⟩⟩ (bl_a hb2 _) hws1 hn4
    have HOF := Lib.hid hof
    have HB := Lib.hid (And.intro hby1 hbl1)
    clear hof hwb hg0 hb2 hby1 hws hws1
    go_wp2_with fail
    refine HOF.out.mono ?_
    rintro x w3 ⟨vs, rfl, hO, hV, hb3⟩
    have hby3 := (hb3.block _ (blk_lt HB.out.1)).trans HB.out.1
    obtain ⟨p0, p1, f0, f1, hgg⟩ := blk2 hby3
    have H3 := Lib.hid (And.intro hO (And.intro hV (And.intro (bl_t hbl1 hb3) hby3)))
    clear hO hV hb3 hby3
    go_wp2
    refine bodyPost_ret (res_ct rfl _ _ w.heap.size 24 #[.int .i64 n, .slice (some ⟨g, 0, none⟩) vs.length bs.length] (0, 0) _ rfl (hs_same (hs_same H3.out.2.2.2 0 _) 1 _) Try.underlying24 rfl (by kernel_rfl)) rfl ?_
    rw [HP.out]
    refine ⟨bl_s (bl_s H3.out.2.2.1 (by simp) _) (by simp) _, some ⟨g, 0, none⟩, bs.length, vs, rfl, ?_, H3.out.2.1⟩
    exact ((H3.out.1.other (p := ⟨w.heap.size, 0, none⟩) (by have := blk_lt HB.out.1; exact this) _).other (p := ⟨w.heap.size, 1, none⟩) (by have := blk_lt HB.out.1; exact this) _).lower hbl1.size
  · have hz2 : (((fitE size l : Nat) : Int) != 0) = true := by rw [bne_iff_ne]; omega
    have HP : Hid (unspec (fun x y => x && y) (fun _ => true) size l = .err (fitE size l)) := by unfold Hid; rw [HU.out, if_neg hz]
    generalize fitE size l = k at HFI HP hz2
    clear hz HU
    go_enter Try.func55, Try.ntmps55
    go_wp2_with fail
    refine HFI.out.mono ?_
    rintro x w1 ⟨rfl, hb1⟩
    have hby1 := (hb1.block _ (blk_lt hby0)).trans hby0
    have HB := Lib.hid (And.intro hby1 (bl_t hbl0 hb1))
    obtain ⟨p0, p1, f0, f1, hgg⟩ := blk2 hby1
    clear hby1
    go_wp2
    refine bodyPost_ret (res_ct rfl _ _ w.heap.size 24 #[.int .i64 0, .slice none 0 0] (0, 0) _ rfl (hs_same (hs_same HB.out.1 0 _) 1 _) Try.underlying24 rfl (by kernel_rfl)) rfl ?_
    rw [HP.out]
    exact ⟨bl_s (bl_s HB.out.2 (by simp) _) (by simp) _, rfl⟩
noncomputable def rsspec (a : SV) : SA := if mayB a.sz a.ws = false then .err 61 else .set a.sz.toNat (fun e => !mem a.ws e)
set_option maxRecDepth 100000 in
set_option maxHeartbeats 4000000 in
theorem rest_any (a : SV) (w : World) (ha : Rd w a.A a.ws) (hao : a.Ok) :
    Calls Try.prog 29 #[.agg #[.int .i64 a.sz, .slice a.A a.ws.length a.c]] w (SAP (rsspec a) w) := by
  obtain ⟨sz, A, c, ws⟩ := a
  have hlt : ∀ j, wd ws j < 18446744073709551616 := hao.lt
  have hwl : ws.length ≤ 17592186044415 := hao.len
  dsimp only at ha ⊢
  have HMA := Lib.hid (fun W hW => may_any sz A c ws W hW hlt (by omega))
  have hbl0 := bl_a (bl_a (Below.refl w.heap.size w) (.cells #[.int .i64 sz, .slice A ws.length c] 24)) (.cells #[.int .i64 0, .slice none 0 0] 24)
  have hbx0 : ((w.alloc (.cells #[.int .i64 sz, .slice A ws.length c] 24)).alloc (.cells #[.int .i64 0, .slice none 0 0] 24)).heap[w.heap.size]? = some (.cells #[.int .i64 sz, .slice A ws.length c] 24 (0, 0)) := (ha_old _ _ _ (by simp)).trans (ha_new _ _ _ rfl)
  have hby0 : ((w.alloc (.cells #[.int .i64 sz, .slice A ws.length c] 24)).alloc (.cells #[.int .i64 0, .slice none 0 0] 24)).heap[w.heap.size + 1]? = some (.cells #[.int .i64 0, .slice none 0 0] 24 (0, 0)) := ha_new _ _ _ (by simp)
  cases hm : mayB sz ws with
  | false =>
    rw [hm] at HMA
    have HP : Hid (rsspec ⟨sz, A, c, ws⟩ = .err 61) := by unfold Hid rsspec; rw [if_pos hm]
    clear hm
    go_enter Try.func29, Try.ntmps29
    go_wp2_with fail
    refine (HMA.out _ (ha.below hbl0)).mono ?_
    rintro x w1 ⟨rfl, hb1⟩
    have hby1 := (hb1.block _ (blk_lt hby0)).trans hby0
    have HB := Lib.hid (And.intro hby1 (bl_t hbl0 hb1))
    obtain ⟨p0, p1, f0, f1, hgg⟩ := blk2 hby1
    clear hby1
    go_wp2
    refine bodyPost_ret (res_ct rfl _ _ (w.heap.size + 1) 24 #[.int .i64 0, .slice none 0 0] (0, 0) _ rfl (hs_same (hs_same HB.out.1 0 _) 1 _) Try.underlying24 rfl (by kernel_rfl)) rfl ?_
    rw [HP.out]
    exact ⟨bl_s (bl_s HB.out.2 (by simp) _) (by simp) _, rfl⟩
  | true =>
    rw [hm] at HMA
    have hmp := mayP_of hm
    obtain ⟨n, rfl⟩ : ∃ n : Nat, sz = n := ⟨sz.toNat, by have := hmp.1; omega⟩
    have h2 : n ≤ 4096 := by have := hmp.2.1; omega
    have hsz : szB n = true := by unfold szB; simp; omega
    have hrg : rgspec n 0 n = .set n (fun e => decide ((0 : Int) ≤ e ∧ (e : Int) < (n : Int))) := by unfold rgspec; rw [if_neg (by rw [hsz]; simp)]; rfl
    have HRG := Lib.hid hrg
    have HWS := Lib.hid (hmp.ws hlt)
    have HP : Hid (rsspec ⟨n, A, c, ws⟩ = .set n (fun e => !mem ws e)) := by unfold Hid rsspec; rw [if_neg (by rw [hm]; simp)]; rfl
    have HM := Lib.hid hm
    clear hmp hrg hsz hm
    go_enter Try.func29, Try.ntmps29
    go_wp2_with fail
    refine (HMA.out _ (ha.below hbl0)).mono ?_
    rintro x w1 ⟨rfl, hb1⟩
    have hbl1 := bl_t hbl0 hb1
    have hby1 := (hb1.block _ (blk_lt hby0)).trans hby0
    have hbx1 := (hb1.block _ (blk_lt hbx0)).trans hbx0
    obtain ⟨p0, p1, f0, f1, hgg⟩ := blk2 hbx1
    go_wp2_with fail
    refine (range_any n 0 n _ (by omega)).mono ?_
    rw [HRG.out]
    rintro x w2 ⟨hb2, g, bs, rfl, hg0, hwb, hws⟩
    have hbl2 := bl_a (bl_t hbl1 hb2) (.cells #[.int .i64 (n : Int), .slice (some ⟨g, 0, none⟩) bs.length bs.length] 24)
    have hby2 := (ha_old w2 (.cells #[.int .i64 (n : Int), .slice (some ⟨g, 0, none⟩) bs.length bs.length] 24) _ (blk_lt ((hb2.block _ (blk_lt hby1)).trans hby1))).trans ((hb2.block _ (blk_lt hby1)).trans hby1)
    have hbx2 := (ha_old w2 (.cells #[.int .i64 (n : Int), .slice (some ⟨g, 0, none⟩) bs.length bs.length] 24) _ (blk_lt ((hb2.block _ (blk_lt hbx1)).trans hbx1))).trans ((hb2.block _ (blk_lt hbx1)).trans hbx1)
    clear p0 p1 f0 f1 hgg
    obtain ⟨p0, p1, f0, f1, hgg⟩ := blk2 hbx2
    have hln : bs.length ≤ 64 := by rw [hws.len, nw_eq]; omega
    have htw := two_any bop_andNot 53 andNot_any ⟨(n : Int), some ⟨g, 0, none⟩, bs.length, bs⟩ ⟨n, A, c, ws⟩ _ ((hwb.alloc (.cells #[.int .i64 (n : Int), .slice (some ⟨g, 0, none⟩) bs.length bs.length] 24)).rd) (ha.below hbl2) ⟨hws.lt, (fun h => by cases h), by dsimp only; omega, Nat.le_refl _⟩ hao
    have hts : twspec (fun x y => x && !y) ⟨(n : Int), some ⟨g, 0, none⟩, bs.length, bs⟩ ⟨n, A, c, ws⟩ = .set n (fun e => mem bs e && !mem ws e) := by
      unfold twspec
      rw [if_neg (by rintro (h | h); · rw [hws.mayB (by omega)] at h; cases h
                     · rw [HM.out] at h; cases h), if_neg (by simp)]
      rfl
    rw [hts] at htw
    have HTW := Lib.hid htw
    have HW2 := Lib.hid (And.intro hws (And.intro hby2 hbl2))
    clear hts htw hws hby2 hbl2 hwb
    go_wp2_with fail
    refine HTW.out.mono ?_
    intro x w3 hpost
    obtain ⟨s, e, rfl, hs, hb3⟩ := hpost.out
    have hby3 := (hb3.block _ (blk_lt HW2.out.2.1)).trans HW2.out.2.1
    have H3 := Lib.hid (And.intro hs (And.intro (bl_t HW2.out.2.2 hb3) hby3))
    clear p0 p1 f0 f1 hgg
    obtain ⟨p0, p1, f0, f1, hgg⟩ := blk2 hby3
    clear hs hb3 hby3 hpost
    go_wp2
    refine bodyPost_ret (res_ct rfl _ _ (w.heap.size + 1) 24 #[.int .i64 s.sz, .slice s.A s.ws.length s.c] (0, 0) _ rfl (hs_same (hs_same H3.out.2.2 0 _) 1 _) Try.underlying24 rfl (by kernel_rfl)) rfl ?_
    have hlt3 := blk_lt HW2.out.2.1
    have hfin := (((H3.out.1.other (p := ⟨w.heap.size + 1, 0, none⟩) hlt3 (.int .i64 s.sz)).other (p := ⟨w.heap.size + 1, 1, none⟩) hlt3 (.slice s.A s.ws.length s.c)).lower HW2.out.2.2.size)
    rw [HP.out]
    refine SOut.sap ?_ (bl_s (bl_s H3.out.2.1 (by simp) _) (by simp) _)
    exact ⟨hfin.1, hfin.2.1, hfin.2.2.1.congr (fun e he => by
      have h5 := HW2.out.1.has e
      have h6 : (0 : Int) ≤ e ∧ (e : Int) < n := by omega
      rw [h5]
      simp [he]), hfin.2.2.2⟩
end Go.Proofs.Ytlmjfcieiengcaa
