/- bitset.two: two sets put together. The words are words; the lengths are ones that slices can have. -/
import Derived.Test.YtlmjfcieiengcaaOps
namespace Go.Proofs.Ytlmjfcieiengcaa
open Go.RowKit
noncomputable def twspec (bop : Bool → Bool → Bool) (a b : SV) : SA :=
  if mayB a.sz a.ws = false ∨ mayB b.sz b.ws = false then .err 61 else if a.sz ≠ b.sz then .err 60 else .set a.sz.toNat (fun e => bop (mem a.ws e) (mem b.ws e))
/-- between the calls of two -/
structure TwS (w W : World) (s : Nat) (a b : SV) : Prop where
  ba : W.heap[s]? = some (.cells #[.int .i64 a.sz, .slice a.A a.ws.length a.c] 24 (0, 0))
  bb : W.heap[s + 1]? = some (.cells #[.int .i64 b.sz, .slice b.A b.ws.length b.c] 24 (0, 0))
  br : ∃ u v, W.heap[s + 2]? = some (.cells #[u, v] 24 (0, 0))
  bl : Below w.heap.size w W
theorem TwS.below {w W W' : World} {s : Nat} {a b : SV} (h : TwS w W s a b) (hb : Below W.heap.size W W') : TwS w W' s a b :=
  ⟨(hb.block _ (blk_lt h.ba)).trans h.ba, (hb.block _ (blk_lt h.bb)).trans h.bb, by obtain ⟨u, v, hr⟩ := h.br; exact ⟨u, v, (hb.block _ (blk_lt hr)).trans hr⟩, bl_t h.bl hb⟩
theorem TwS.store {w W : World} {s : Nat} {a b : SV} (h : TwS w W s a b) (hs : w.heap.size ≤ s) (i : Nat) (u : Value) (hi : i < 2) : TwS w (W.setCell ⟨s + 2, i, none⟩ u) s a b := by
  refine ⟨(hs_other _ _ _ _ (by simp)).trans h.ba, (hs_other _ _ _ _ (by simp)).trans h.bb, ?_, bl_s h.bl (by simp; omega) _⟩
  obtain ⟨x, y, hr⟩ := h.br
  have := hs_same hr i u
  match i, hi with
  | 0, _ => exact ⟨u, y, this⟩
  | 1, _ => exact ⟨x, u, this⟩
theorem two_fold {op : Nat → Nat → Nat} {bop : Bool → Bool → Bool} (ho : BOp op bop) (F : FuncId) (hF : Reck op F) (a b : SV) (w3 : World) (hao : a.Ok) (hbo : b.Ok) (hl : b.ws.length = a.ws.length) (hl64 : a.ws.length ≤ 64) (hb3 : Rd w3 b.A b.ws)
    (A' : Option Addr) (c' : Nat) (W : World) (k : Nat) (t : TypeId) (hown : OwnR w3 W A' c' a.ws) (h0 : Below w3.heap.size w3 W) (hk : W.heap[k]? = some (.cells #[.int .i64 b.sz, .slice b.A b.ws.length b.c] t (0, 0))) (hkA : ∀ x, A' = some x → k ≠ x.block) :
    Calls Try.prog 50 #[.agg #[.int .i64 a.sz, .slice A' a.ws.length c'], .slice (some ⟨k, 0, none⟩) 1 1, .func (.func F) #[] #[]] W fun x w' => x = .returned (.agg #[.int .i64 a.sz, .slice A' a.ws.length c']) ∧ OwnR w3 w' A' c' (fw op a.ws [b] 1) ∧ Below w3.heap.size w3 w' :=
  foldown_any ho F hF w3 a.sz A' c' a.ws (some ⟨k, 0, none⟩) 1 [b] W hown h0 hao.lt hl64 (rdS_one hk (hb3.below h0)) (fun _ b' off h x hx => by injection h with h; injection h with h; subst h; exact hkA x hx) (fun s hs => by simp at hs; subst hs; exact hbo.lt) (fun s hs => by simp at hs; subst hs; exact hl)
    (fun s hs hp x y hx hy => by
      simp at hs
      subst hs
      have h1 := hb3.blk hp hy
      have h2 := (hown.own x hx).1
      omega) (by simp)
set_option maxRecDepth 100000 in
set_option maxHeartbeats 20000000 in
theorem two_any {op : Nat → Nat → Nat} {bop : Bool → Bool → Bool} (ho : BOp op bop) (F : FuncId) (hF : Reck op F) (a b : SV) (w : World) (ha : Rd w a.A a.ws) (hb : Rd w b.A b.ws) (hao : a.Ok) (hbo : b.Ok) :
    Calls Try.prog 43 #[.agg #[.int .i64 a.sz, .slice a.A a.ws.length a.c], .agg #[.int .i64 b.sz, .slice b.A b.ws.length b.c], .func (.func F) #[] #[]] w (SAP (twspec bop a b) w) := by
  have HMA := Lib.hid (fun W hW => may_any a.sz a.A a.c a.ws W hW hao.lt (by have := hao.len; omega))
  have HMB := Lib.hid (fun W hW => may_any b.sz b.A b.c b.ws W hW hbo.lt (by have := hbo.len; omega))
  obtain ⟨w1, hw1⟩ : ∃ w1, w1 = ((w.alloc (.cells #[.int .i64 a.sz, .slice a.A a.ws.length a.c] 24)).alloc (.cells #[.int .i64 b.sz, .slice b.A b.ws.length b.c] 24)).alloc (.cells #[.int .i64 0, .slice none 0 0] 24) := ⟨_, rfl⟩
  have hT1 : TwS w w1 w.heap.size a b := by
    rw [hw1]
    exact ⟨(ha_old _ _ _ (by simp; omega)).trans ((ha_old _ _ _ (by simp)).trans (ha_new _ _ _ rfl)), (ha_old _ _ _ (by simp)).trans (ha_new _ _ _ (by simp)), ⟨_, _, ha_new _ _ _ (by simp)⟩, bl_a (bl_a (bl_a (Below.refl _ _) _) _) _⟩
  have HT1 := Lib.hid hT1
  rw [hw1] at HT1
  clear hw1 hT1
  cases hma : mayB a.sz a.ws with
  | false =>
    rw [hma] at HMA
    have HP : Hid (twspec bop a b = .err 61) := by unfold Hid twspec; rw [if_pos (.inl hma)]
    clear hma
    go_enter Try.func43, Try.ntmps43
    go_wp2_with fail
    refine (HMA.out _ (ha.below HT1.out.bl)).mono ?_
    rintro x w2 ⟨rfl, hb2⟩
    have hT2 := HT1.out.below hb2
    obtain ⟨u, v, hr⟩ := hT2.br
    have HT2 := Lib.hid hT2
    clear hT2
    obtain ⟨p0, p1, f0, f1, hg⟩ := blk2 hr
    go_wp2
    refine bodyPost_ret (res_ct rfl _ _ (w.heap.size + 2) 24 #[.int .i64 0, .slice none 0 0] (0, 0) _ rfl (hs_same (hs_same hr 0 _) 1 _) Try.underlying24 rfl (by kernel_rfl)) rfl ?_
    rw [HP.out]
    exact ⟨bl_s (bl_s HT2.out.bl (by dsimp only; omega) _) (by dsimp only; omega) _, rfl⟩
  | true =>
    rw [hma] at HMA
    have HMAY := Lib.hid hma
    cases hmb : mayB b.sz b.ws with
    | false =>
      rw [hmb] at HMB
      have HP : Hid (twspec bop a b = .err 61) := by unfold Hid twspec; rw [if_pos (.inr hmb)]
      clear hma hmb
      go_enter Try.func43, Try.ntmps43
      go_wp2_with fail
      refine (HMA.out _ (ha.below HT1.out.bl)).mono ?_
      rintro x w2 ⟨rfl, hb2⟩
      have HT2 := Lib.hid (HT1.out.below hb2)
      obtain ⟨p0, p1, f0, f1, hg⟩ := blk2 HT2.out.bb
      go_wp2_with fail
      refine (HMB.out _ (hb.below HT2.out.bl)).mono ?_
      rintro x w3 ⟨rfl, hb3⟩
      have HT3 := Lib.hid (HT2.out.below hb3)
      clear p0 p1 f0 f1 hg
      obtain ⟨u, v, hr⟩ := HT3.out.br
      obtain ⟨p0, p1, f0, f1, hg⟩ := blk2 hr
      go_wp2
      refine bodyPost_ret (res_ct rfl _ _ (w.heap.size + 2) 24 #[.int .i64 0, .slice none 0 0] (0, 0) _ rfl (hs_same (hs_same hr 0 _) 1 _) Try.underlying24 rfl (by kernel_rfl)) rfl ?_
      rw [HP.out]
      exact ⟨bl_s (bl_s HT3.out.bl (by dsimp only; omega) _) (by dsimp only; omega) _, rfl⟩
    | true =>
      rw [hmb] at HMB
      have HMBY := Lib.hid hmb
      by_cases hsz : a.sz = b.sz
      · have hszn : (a.sz != b.sz) = false := by rw [bne_eq_false_iff_eq]; exact hsz
        have HP : Hid (twspec bop a b = .set a.sz.toNat (fun e => bop (mem a.ws e) (mem b.ws e))) := by
          unfold Hid twspec
          rw [if_neg (by rintro (h | h); · rw [hma] at h; cases h
                         · rw [hmb] at h; cases h), if_neg (by simpa using hsz)]
        have hmi : mine a.sz a.ws = a.ws := by unfold mine; rw [hma]; rfl
        have hown := fun W hW => ownc_any a.sz a.A a.c a.ws W hW hao.lt hao.nil (by have := hao.len; omega)
        rw [hmi] at hown
        have HOWN := Lib.hid hown
        have hmpa := mayP_of hma
        have hmpb := mayP_of hmb
        have hla := hmpa.2.2.1
        have hlb := hmpb.2.2.1
        have hlab : b.ws.length = a.ws.length := by rw [hla, hlb, hsz]
        have hl64 : a.ws.length ≤ 64 := by have := hmpa.2.1; rw [hla, nw_eq]; omega
        have HLEN := Lib.hid hlab
        have HSZN : Hid (((a.sz.toNat : Nat) : Int) = a.sz) := by unfold Hid; have := hmpa.1; omega
        have HWS : Hid (Ws (fw op a.ws [b] 1) a.sz.toNat (fun e => bop (mem a.ws e) (mem b.ws e))) := (hmpa.ws hao.lt).zip ho (by rw [hsz]; exact hmpb.ws hbo.lt)
        clear hma hmb hsz hmi hown hmpa hmpb hla hlb hlab
        go_enter Try.func43, Try.ntmps43
        go_wp2_with fail
        refine (HMA.out _ (ha.below HT1.out.bl)).mono ?_
        rintro x w2 ⟨rfl, hb2⟩
        have HT2 := Lib.hid (HT1.out.below hb2)
        obtain ⟨p0, p1, f0, f1, hg⟩ := blk2 HT2.out.bb
        go_wp2_with fail
        refine (HMB.out _ (hb.below HT2.out.bl)).mono ?_
        rintro x w3 ⟨rfl, hb3⟩
        have HT3 := Lib.hid (HT2.out.below hb3)
        clear p0 p1 f0 f1 hg
        obtain ⟨p0, p1, f0, f1, hg⟩ := blk2 HT3.out.ba
        obtain ⟨q0, q1, r0, r1, hg'⟩ := blk2 HT3.out.bb
        have hT3d : TwS w w3.drew w.heap.size a b := ⟨HT3.out.ba, HT3.out.bb, HT3.out.br, bl_d HT3.out.bl⟩
        have HT3D := Lib.hid hT3d
        clear hT3d
        have HSX : ∀ W : World, (W.cell? ⟨w.heap.size, 0, none⟩ = some (.int .i64 a.sz) ∧ W.cell? ⟨w.heap.size, 1, none⟩ = some (.slice a.A a.ws.length a.c) ∧ W.cell? ⟨w.heap.size + 1, 0, none⟩ = some (.int .i64 b.sz) ∧ W.cell? ⟨w.heap.size + 1, 1, none⟩ = some (.slice b.A b.ws.length b.c) ∧ TwS w W w.heap.size a b) → TwS w W w.heap.size a b := fun W h => h.2.2.2.2
        have HST : ∀ W : World, TwS w W w.heap.size a b → (W.cell? ⟨w.heap.size, 0, none⟩ = some (.int .i64 a.sz) ∧ W.cell? ⟨w.heap.size, 1, none⟩ = some (.slice a.A a.ws.length a.c) ∧ W.cell? ⟨w.heap.size + 1, 0, none⟩ = some (.int .i64 b.sz) ∧ W.cell? ⟨w.heap.size + 1, 1, none⟩ = some (.slice b.A b.ws.length b.c) ∧ TwS w W w.heap.size a b) := fun W h => by
          obtain ⟨g0, g1, _⟩ := blk2 h.ba
          obtain ⟨g2, g3, _⟩ := blk2 h.bb
          exact ⟨g0, g1, g2, g3, h⟩
        have HS1 := Lib.hid (And.intro HSX HST)
        have HFO := Lib.hid (fun A' c' W k t h1 h2 h3 h4 => two_fold ho F hF a b w3 hao hbo HLEN.out hl64 (hb.below HT3.out.bl) A' c' W k t h1 h2 h3 h4)
        clear HSX HST
        go_wp2
        go_region_held3 (fun W => W.cell? ⟨w.heap.size, 0, none⟩ = some (.int .i64 a.sz) ∧ W.cell? ⟨w.heap.size, 1, none⟩ = some (.slice a.A a.ws.length a.c) ∧ W.cell? ⟨w.heap.size + 1, 0, none⟩ = some (.int .i64 b.sz) ∧ W.cell? ⟨w.heap.size + 1, 1, none⟩ = some (.slice b.A b.ws.length b.c) ∧ TwS w W w.heap.size a b)
          (first | exact ⟨p0, p1, q0, q1, HT3D.out⟩ | exact HS1.out.2 _ ((HS1.out.1 _ (by assumption)).below (by assumption)) | exact HS1.out.2 _ ((HS1.out.1 _ (by assumption)).below (bl_a (Below.refl _ _) _)) | exact HS1.out.2 _ (HT3.out.below (by assumption)) | exact HS1.out.2 _ (((HS1.out.1 _ (by assumption)).store (Nat.le_refl _) 0 _ (by decide)).store (Nat.le_refl _) 1 _ (by decide)))
          (first
            | (go_at_call 62; refine (HOWN.out _ (ha.below (HS1.out.1 _ (by assumption)).bl)).mono ?_; rintro x w5 ⟨A', c', rfl, hrd5, hA5, hAn5, hb5, hc5⟩)
            | (go_at_call 50; refine (HFO.out A' c' _ w5.heap.size _ (OwnR.below ⟨hrd5, hAn5, hc5, fun x hx => ⟨(hA5 x hx).1, (hA5 x hx).2.2⟩⟩ (bl_a (Below.refl _ _) _)) (bl_a (bl_t (bl_d (Below.refl _ _)) hb5) _) (ha_new _ _ _ rfl) (fun x hx => by have := (hA5 x hx).2.1; omega)).mono ?_; rintro x w6 ⟨rfl, hO6, hb6⟩; obtain ⟨u6, v6, hr6⟩ := (HT3.out.below hb6).br; obtain ⟨z0, z1, y0, y1, hg6⟩ := blk2 hr6)
            | (go_at_call 50; refine (HFO.out A' c' _ w3.heap.size _ ⟨hrd5, hAn5, hc5, fun x hx => ⟨(by have := (hA5 x hx).1; simp at this; omega), (hA5 x hx).2.2⟩⟩ (bl_t (bl_a (bl_d (Below.refl _ _)) _) hb5) ((hb5.block _ (by simp)).trans (ha_new _ _ _ rfl)) (fun x hx => by have := (hA5 x hx).1; simp at this; omega)).mono ?_; rintro x w6 ⟨rfl, hO6, hb6⟩; obtain ⟨u6, v6, hr6⟩ := (HT3.out.below hb6).br; obtain ⟨z0, z1, y0, y1, hg6⟩ := blk2 hr6))
        all_goals
          clear p0 p1 q0 q1 r0 r1 f0 f1 hg hg'
          have h3w := HT3.out.bl.size
          have h3r : w.heap.size + 2 < w3.heap.size := by obtain ⟨_, _, hr3⟩ := HT3.out.br; exact blk_lt hr3
          have hO7 := ((hO6.other (p := ⟨w.heap.size + 2, 0, none⟩) h3r (.int .i64 a.sz)).other (p := ⟨w.heap.size + 2, 1, none⟩) h3r (.slice A' a.ws.length c')).lower h3w
          have hB7 := bl_s (bl_s (bl_t HT3.out.bl hb6) (p := ⟨w.heap.size + 2, 0, none⟩) (by dsimp only; omega) (.int .i64 a.sz)) (p := ⟨w.heap.size + 2, 1, none⟩) (by dsimp only; omega) (.slice A' a.ws.length c')
          have hR7 := hs_same (hs_same hr6 0 (.int .i64 a.sz)) 1 (.slice A' a.ws.length c')
          have H7 := Lib.hid (And.intro hO7 (And.intro hB7 hR7))
          clear hO7 hB7 hR7 hO6 hb6 hr6 z0 z1 y0 y1 hg6
          go_wp2
          refine bodyPost_ret (res_ct rfl _ _ (w.heap.size + 2) 24 #[.int .i64 a.sz, .slice A' a.ws.length c'] (0, 0) _ rfl H7.out.2.2 Try.underlying24 rfl (by kernel_rfl)) rfl ?_
          rw [HP.out]
          exact ⟨H7.out.2.1, A', c', _, by rw [fw_length, HSZN.out]; rfl, H7.out.1, HWS.out⟩
      · have hszn : (a.sz != b.sz) = true := by rw [bne_iff_ne]; exact hsz
        have HP : Hid (twspec bop a b = .err 60) := by
          unfold Hid twspec
          rw [if_neg (by rintro (h | h); · rw [hma] at h; cases h
                         · rw [hmb] at h; cases h), if_pos hsz]
        clear hma hmb hsz
        go_enter Try.func43, Try.ntmps43
        go_wp2_with fail
        refine (HMA.out _ (ha.below HT1.out.bl)).mono ?_
        rintro x w2 ⟨rfl, hb2⟩
        have HT2 := Lib.hid (HT1.out.below hb2)
        obtain ⟨p0, p1, f0, f1, hg⟩ := blk2 HT2.out.bb
        go_wp2_with fail
        refine (HMB.out _ (hb.below HT2.out.bl)).mono ?_
        rintro x w3 ⟨rfl, hb3⟩
        have HT3 := Lib.hid (HT2.out.below hb3)
        clear p0 p1 f0 f1 hg
        obtain ⟨p0, p1, f0, f1, hg⟩ := blk2 HT3.out.ba
        obtain ⟨q0, q1, r0, r1, hg'⟩ := blk2 HT3.out.bb
        obtain ⟨u, v, hr⟩ := HT3.out.br
        obtain ⟨y0, y1, z0, z1, hg''⟩ := blk2 hr
        go_wp2
        refine bodyPost_ret (res_ct rfl _ _ (w.heap.size + 2) 24 #[.int .i64 0, .slice none 0 0] (0, 0) _ rfl (hs_same (hs_same hr 0 _) 1 _) Try.underlying24 rfl (by kernel_rfl)) rfl ?_
        rw [HP.out]
        exact ⟨bl_s (bl_s HT3.out.bl (by dsimp only; omega) _) (by dsimp only; omega) _, rfl⟩
end Go.Proofs.Ytlmjfcieiengcaa
