/- bitset.Union, Inter, Rest. The words are words; the lengths are ones that slices can have. -/
import Derived.Test.YtlmjfcieiengcaaDerived
import Derived.Test.YtlmjfcieiengcaaRange
namespace Go.Proofs.Ytlmjfcieiengcaa
open Go.RowKit
noncomputable def unspec (bop : Bool → Bool → Bool) (f0 : Nat → Bool) (size : Int) (l : List SV) : SA :=
  if fitE size l = 0 then .set size.toNat (ff bop l f0 l.length) else .err (fitE size l)
theorem RdS.blk {w : World} {B : Option Addr} {l : List SV} (h : RdS w B l) (h0 : 0 < l.length) {b off : Nat} (hB : B = some ⟨b, off, none⟩) : b < w.heap.size := by
  obtain ⟨b', off', h1, h2, _⟩ := h 0 h0
  rw [hB] at h1
  injection h1 with h1
  injection h1 with h1
  subst h1
  exact h2
theorem RdS.rd {w : World} {B : Option Addr} {l : List SV} (h : RdS w B l) {s : SV} (hs : s ∈ l) : Rd w s.A s.ws := by
  obtain ⟨k, hk, rfl⟩ := List.mem_iff_getElem.1 hs
  obtain ⟨_, _, _, _, _, _, h⟩ := h k hk
  rw [sd_lt hk] at h
  exact h
/-- fold of the sets that fit, over new words -/
theorem foldfit {op : Nat → Nat → Nat} {bop : Bool → Bool → Bool} (ho : BOp op bop) (F : FuncId) (hF : Reck op F) (n : Nat) (f0 : Nat → Bool) (B : Option Addr) (d : Nat) (l : List SV) (w W : World) (hfit : fitE n l = 0) (hl : RdS w B l) (hok : ∀ s ∈ l, s.Ok) (hn : l.length ≤ 9223372036854775807)
    (A : Option Addr) (c : Nat) (bs : List Nat) (hown : OwnR w W A c bs) (hb : Below w.heap.size w W) (hbs : Ws bs n f0) (hn4 : n ≤ 4096) :
    Calls Try.prog 50 #[.agg #[.int .i64 n, .slice A bs.length c], .slice B l.length d, .func (.func F) #[] #[]] W fun x w' => ∃ vs, x = .returned (.agg #[.int .i64 n, .slice A (vs : List Nat).length c]) ∧ OwnR w w' A c vs ∧ Ws vs n (ff bop l f0 l.length) ∧ Below w.heap.size w w' := by
  obtain ⟨h1, h2, h3⟩ := fitE_zero hfit
  have hlen : ∀ s ∈ l, s.ws.length = bs.length := fun s hs => by
    have h4 := (mayP_of (h1 s hs)).2.2.1
    rw [h4, h3 s hs, hbs.len]
    rfl
  refine (foldown_any ho F hF w n A c bs B d l W hown hb hbs.lt (by rw [hbs.len, nw_eq]; omega) (hl.below hb) (fun h0 b off hB a ha => ?_) (fun s hs => (hok s hs).lt) hlen (fun s hs hp a b ha hsb => ?_) hn).mono ?_
  · have h4 := hl.blk h0 hB
    have h5 := (hown.own a ha).1
    omega
  · have h4 := (hl.rd hs).blk hp hsb
    have h5 := (hown.own a ha).1
    omega
  · rintro x w' ⟨rfl, hO, hb'⟩
    refine ⟨_, by rw [fw_length], hO, hbs.fold ho (fun s hs => ?_) _ (Nat.le_refl _), hb'⟩
    have h4 := (mayP_of (h1 s hs)).ws (hok s hs).lt
    rw [h3 s hs] at h4
    exact h4
set_option maxRecDepth 100000 in
set_option maxHeartbeats 4000000 in
theorem union_any (size : Int) (B : Option Addr) (d : Nat) (l : List SV) (w : World) (hl : RdS w B l) (hok : ∀ s ∈ l, s.Ok) (hn : l.length ≤ 9223372036854775807) :
    Calls Try.prog 21 #[.int .i64 size, .slice B l.length d] w (SAP (unspec (fun x y => x || y) (fun _ => false) size l) w) := by
  have hbl0 := bl_a (Below.refl w.heap.size w) (.cells #[.int .i64 0, .slice none 0 0] 24)
  have hby0 : (w.alloc (.cells #[.int .i64 0, .slice none 0 0] 24)).heap[w.heap.size]? = some (.cells #[.int .i64 0, .slice none 0 0] 24 (0, 0)) := ha_new _ _ _ rfl
  have HFI := Lib.hid (fit_any size B d l _ (hl.below hbl0) hok hn)
  have HU : Hid (unspec (fun x y => x || y) (fun _ => false) size l = if fitE size l = 0 then .set size.toNat (ff (fun x y => x || y) l (fun _ => false) l.length) else .err (fitE size l)) := rfl
  by_cases hz : fitE size l = 0
  · rw [hz] at HFI
    have hsz := (fitE_zero hz).2.1
    obtain ⟨n, rfl⟩ : ∃ n : Nat, size = n := ⟨size.toNat, by unfold szB at hsz; simp at hsz; omega⟩
    have hn4 : n ≤ 4096 := by unfold szB at hsz; simp at hsz; omega
    have HZ := Lib.hid hz
    have HP : Hid (unspec (fun x y => x || y) (fun _ => false) n l = .set n (ff (fun x y => x || y) l (fun _ => false) l.length)) := by unfold Hid; rw [HU.out, if_pos hz]; rfl
    clear hz hsz
    go_enter Try.func21, Try.ntmps21
    go_wp2_with fail
    refine HFI.out.mono ?_
    rintro x w1 ⟨rfl, hb1⟩
    have hbl1 := bl_t hbl0 hb1
    have hby1 := (hb1.block _ (blk_lt hby0)).trans hby0
    go_wp2_with fail
    refine (blank_any n (by omega) _).mono ?_
    rintro x w2 ⟨g, rfl, hg0, hwb, hb2⟩
    have hby2 := (hb2.block _ (blk_lt hby1)).trans hby1
    have hbl2 := bl_t hbl1 hb2
    have h0 := blk_lt hby0
    have hg1 := hb1.size
    have hof := foldfit bop_or 51 or_any n (fun _ => false) B d l w1 w2 HZ.out (hl.below hbl1) hok hn (some ⟨g, 0, none⟩) (nw n) _ ⟨hwb.rd, (fun h => by cases h), by simp, fun a h => by injection h with h; subst h; exact ⟨hg0, rfl, rfl, hwb⟩⟩ hb2 (Ws.empty n) hn4
    rw [List.length_replicate] at hof
    have HOF := Lib.hid hof
    have HB := Lib.hid (And.intro hby1 hbl1)
    clear hof hwb hg0 hb2 hby2 hbl2 hby1
    go_wp2_with fail
    refine HOF.out.mono ?_
    rintro x w3 ⟨vs, rfl, hO, hV, hb3⟩
    have hby3 := (hb3.block _ (blk_lt HB.out.1)).trans HB.out.1
    obtain ⟨p0, p1, f0, f1, hgg⟩ := blk2 hby3
    have H3 := Lib.hid (And.intro hO (And.intro hV (And.intro (bl_t hbl1 hb3) hby3)))
    clear hO hV hb3 hby3
    go_wp2
    refine bodyPost_ret (res_ct rfl _ _ w.heap.size 24 #[.int .i64 n, .slice (some ⟨g, 0, none⟩) vs.length (nw n)] (0, 0) _ rfl (hs_same (hs_same H3.out.2.2.2 0 _) 1 _) Try.underlying24 rfl (by kernel_rfl)) rfl ?_
    rw [HP.out]
    refine ⟨bl_s (bl_s H3.out.2.2.1 (by simp) _) (by simp) _, some ⟨g, 0, none⟩, nw n, vs, rfl, ?_, H3.out.2.1⟩
    exact ((H3.out.1.other (p := ⟨w.heap.size, 0, none⟩) (by have := blk_lt HB.out.1; exact this) _).other (p := ⟨w.heap.size, 1, none⟩) (by have := blk_lt HB.out.1; exact this) _).lower hbl1.size
  · have hz2 : (((fitE size l : Nat) : Int) != 0) = true := by rw [bne_iff_ne]; omega
    have HP : Hid (unspec (fun x y => x || y) (fun _ => false) size l = .err (fitE size l)) := by unfold Hid; rw [HU.out, if_neg hz]
    generalize fitE size l = k at HFI HP hz2
    clear hz HU
    go_enter Try.func21, Try.ntmps21
    go_wp2_with fail
    refine HFI.out.mono ?_
    rintro x w1 ⟨rfl, hb1⟩
    have hby1 := (hb1.block _ (blk_lt hby0)).trans hby0
    have HB := Lib.hid (And.intro hby1 (bl_t hbl0 hb1))
    obtain ⟨p0, p1, f0, f1, hgg⟩ := blk2 hby1
    clear hby1
    go_wp2
    refine bodyPost_ret (res_ct rfl _ _ w.heap.size 24 #[.int .i64 0, .slice none 0 0] (0, 0) _ rfl (hs_same (hs_same HB.out.1 0 _) 1 _) Try.underlying24 rfl (by kernel_rfl)) rfl ?_
    rw [HP.out]
    exact ⟨bl_s (bl_s HB.out.2 (by simp) _) (by simp) _, rfl⟩
end Go.Proofs.Ytlmjfcieiengcaa
