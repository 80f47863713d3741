/- bitset.Minus, Differ, none, Equal, Subset, Disjoint: by two. The words are words; the lengths are ones that slices can have. -/
import Derived.Test.YtlmjfcieiengcaaTwo
import Derived.Test.YtlmjfcieiengcaaCount
namespace Go.Proofs.Ytlmjfcieiengcaa
open Go.RowKit
/-- what an answer says of the set s and the error e -/
def SOut (an : SA) (w w' : World) (s : SV) (e : Int) : Prop := match an with
  | .err k => s = ⟨0, none, 0, []⟩ ∧ e = k
  | .set n f => s.sz = n ∧ OwnR w w' s.A s.c s.ws ∧ Ws s.ws n f ∧ e = 0
theorem SAP.out {an : SA} {w w' : World} {x : Ending} (h : SAP an w x w') : ∃ (s : SV) (e : Int), x = .returned (.tuple #[.agg #[.int .i64 s.sz, .slice s.A s.ws.length s.c], .int .i64 e]) ∧ SOut an w w' s e ∧ Below w.heap.size w w' := by
  obtain ⟨hb, h⟩ := h
  cases an with
  | err k => exact ⟨⟨0, none, 0, []⟩, k, h, ⟨rfl, rfl⟩, hb⟩
  | set n f =>
    obtain ⟨A, c, ws, h1, h2, h3⟩ := h
    exact ⟨⟨n, A, c, ws⟩, 0, h1, ⟨rfl, h2, h3, rfl⟩, hb⟩
theorem SOut.sap {an : SA} {w w' : World} {s : SV} {e : Int} (h : SOut an w w' s e) (hb : Below w.heap.size w w') : SAP an w (.returned (.tuple #[.agg #[.int .i64 s.sz, .slice s.A s.ws.length s.c], .int .i64 e])) w' := by
  refine ⟨hb, ?_⟩
  cases an with
  | err k =>
    obtain ⟨rfl, rfl⟩ := h
    rfl
  | set n f =>
    obtain ⟨h1, h2, h3, rfl⟩ := h
    exact ⟨s.A, s.c, s.ws, by rw [h1], h2, h3⟩
theorem SOut.lower {an : SA} {w w0 w' : World} {s : SV} {e : Int} (h : SOut an w w' s e) (hs : w0.heap.size ≤ w.heap.size) : SOut an w0 w' s e := by
  cases an with
  | err k => exact h
  | set n f => exact ⟨h.1, h.2.1.lower hs, h.2.2.1, h.2.2.2⟩
theorem SOut.below {an : SA} {w W W' : World} {s : SV} {e : Int} (h : SOut an w W s e) (hb : Below W.heap.size W W') : SOut an w W' s e := by
  cases an with
  | err k => exact h
  | set n f => exact ⟨h.1, h.2.1.below hb, h.2.2.1, h.2.2.2⟩
theorem SOut.other {an : SA} {w W : World} {s : SV} {e : Int} (h : SOut an w W s e) {p : Addr} (hp : p.block < w.heap.size) (u : Value) : SOut an w (W.setCell p u) s e := by
  cases an with
  | err k => exact h
  | set n f => exact ⟨h.1, h.2.1.other hp u, h.2.2.1, h.2.2.2⟩
theorem SOut.rd {an : SA} {w W : World} {s : SV} {e : Int} (h : SOut an w W s e) : Rd W s.A s.ws := by
  cases an with
  | err k => obtain ⟨rfl, _⟩ := h; exact RdK.nil _ _ _
  | set n f => exact h.2.1.rd
def SA.small : SA → Prop
  | .err _ => True
  | .set n _ => n ≤ 4096
theorem SOut.ok {an : SA} {w W : World} {s : SV} {e : Int} (h : SOut an w W s e) (hn : an.small) : s.Ok := by
  cases an with
  | err k =>
    obtain ⟨rfl, _⟩ := h
    exact ⟨fun j => by simp [wd], fun _ => ⟨rfl, rfl⟩, by simp, Nat.le_refl _⟩
  | set n f =>
    obtain ⟨h1, h2, h3, _⟩ := h
    exact ⟨h3.lt, h2.nil, by rw [h3.len, nw_eq]; have : n ≤ 4096 := hn; omega, h2.cap⟩
theorem twspec_small (bop : Bool → Bool → Bool) (a b : SV) : (twspec bop a b).small := by
  unfold twspec
  split
  · trivial
  · rename_i h
    split
    · trivial
    · have h1 : mayB a.sz a.ws = true := by
        apply Decidable.byContradiction
        intro hn
        exact h (.inl (by simpa using hn))
      have := (mayP_of h1).2.1
      show a.sz.toNat ≤ 4096
      omega
set_option maxRecDepth 100000 in
set_option maxHeartbeats 4000000 in
theorem minus_any (a b : SV) (w : World) (ha : Rd w a.A a.ws) (hb : Rd w b.A b.ws) (hao : a.Ok) (hbo : b.Ok) :
    Calls Try.prog 23 #[.agg #[.int .i64 a.sz, .slice a.A a.ws.length a.c], .agg #[.int .i64 b.sz, .slice b.A b.ws.length b.c]] w (SAP (twspec (fun x y => x && !y) a b) w) := by
  have hbl0 := bl_a (bl_a (bl_a (Below.refl w.heap.size w) (.cells #[.int .i64 a.sz, .slice a.A a.ws.length a.c] 24)) (.cells #[.int .i64 b.sz, .slice b.A b.ws.length b.c] 24)) (.cells #[.int .i64 0, .slice none 0 0] 24)
  have HTW := Lib.hid (fun W h1 h2 => two_any bop_andNot 53 andNot_any a b W h1 h2 hao hbo)
  go_enter Try.func23, Try.ntmps23
  go_wp2_with fail
  refine (HTW.out _ (ha.below hbl0) (hb.below hbl0)).mono ?_
  intro x w1 hpost
  obtain ⟨s, e, rfl, hs, hb1⟩ := hpost.out
  have hr := (hb1.block (w.heap.size + 2) (by simp <;> omega)).trans (ha_new _ _ _ (by simp))
  obtain ⟨p0, p1, f0, f1, hg⟩ := blk2 hr
  have HS := Lib.hid (And.intro hs (bl_t hbl0 hb1))
  have HR := Lib.hid hr
  clear hs hb1 hr
  go_wp2
  refine bodyPost_ret (res_ct rfl _ _ (w.heap.size + 2) 24 #[.int .i64 s.sz, .slice s.A s.ws.length s.c] (0, 0) _ rfl (hs_same (hs_same HR.out 0 _) 1 _) Try.underlying24 rfl (by kernel_rfl)) rfl ?_
  exact (((HS.out.1.other (p := ⟨w.heap.size + 2, 0, none⟩) (by simp <;> omega) _).other (p := ⟨w.heap.size + 2, 1, none⟩) (by simp <;> omega) _).lower (by simp <;> omega)).sap (bl_s (bl_s HS.out.2 (by dsimp only; omega) _) (by dsimp only; omega) _)
set_option maxRecDepth 100000 in
set_option maxHeartbeats 4000000 in
theorem differ_any (a b : SV) (w : World) (ha : Rd w a.A a.ws) (hb : Rd w b.A b.ws) (hao : a.Ok) (hbo : b.Ok) :
    Calls Try.prog 30 #[.agg #[.int .i64 a.sz, .slice a.A a.ws.length a.c], .agg #[.int .i64 b.sz, .slice b.A b.ws.length b.c]] w (SAP (twspec (fun x y => x ^^ y) a b) w) := by
  have hbl0 := bl_a (bl_a (bl_a (Below.refl w.heap.size w) (.cells #[.int .i64 a.sz, .slice a.A a.ws.length a.c] 24)) (.cells #[.int .i64 b.sz, .slice b.A b.ws.length b.c] 24)) (.cells #[.int .i64 0, .slice none 0 0] 24)
  have HTW := Lib.hid (fun W h1 h2 => two_any bop_xor 56 xor_any a b W h1 h2 hao hbo)
  go_enter Try.func30, Try.ntmps30
  go_wp2_with fail
  refine (HTW.out _ (ha.below hbl0) (hb.below hbl0)).mono ?_
  intro x w1 hpost
  obtain ⟨s, e, rfl, hs, hb1⟩ := hpost.out
  have hr := (hb1.block (w.heap.size + 2) (by simp <;> omega)).trans (ha_new _ _ _ (by simp))
  obtain ⟨p0, p1, f0, f1, hg⟩ := blk2 hr
  have HS := Lib.hid (And.intro hs (bl_t hbl0 hb1))
  have HR := Lib.hid hr
  clear hs hb1 hr
  go_wp2
  refine bodyPost_ret (res_ct rfl _ _ (w.heap.size + 2) 24 #[.int .i64 s.sz, .slice s.A s.ws.length s.c] (0, 0) _ rfl (hs_same (hs_same HR.out 0 _) 1 _) Try.underlying24 rfl (by kernel_rfl)) rfl ?_
  exact (((HS.out.1.other (p := ⟨w.heap.size + 2, 0, none⟩) (by simp <;> omega) _).other (p := ⟨w.heap.size + 2, 1, none⟩) (by simp <;> omega) _).lower (by simp <;> omega)).sap (bl_s (bl_s HS.out.2 (by dsimp only; omega) _) (by dsimp only; omega) _)
/-- do two sets leave nothing, put together so? -/
noncomputable def noneB (bop : Bool → Bool → Bool) (a b : SV) : Bool := match twspec bop a b with
  | .err _ => false
  | .set n f => decide (cntb f n = 0)
set_option maxRecDepth 100000 in
set_option maxHeartbeats 4000000 in
theorem nonef_any {op : Nat → Nat → Nat} {bop : Bool → Bool → Bool} (ho : BOp op bop) (F : FuncId) (hF : Reck op F) (a b : SV) (w : World) (ha : Rd w a.A a.ws) (hb : Rd w b.A b.ws) (hao : a.Ok) (hbo : b.Ok) :
    Calls Try.prog 52 #[.agg #[.int .i64 a.sz, .slice a.A a.ws.length a.c], .agg #[.int .i64 b.sz, .slice b.A b.ws.length b.c], .func (.func F) #[] #[]] w fun x w' => x = .returned (.bool (noneB bop a b)) ∧ Below w.heap.size w w' := by
  have hbl0 := bl_a (bl_a (Below.refl w.heap.size w) (.cells #[.int .i64 a.sz, .slice a.A a.ws.length a.c] 24)) (.cells #[.int .i64 b.sz, .slice b.A b.ws.length b.c] 24)
  have HTW := Lib.hid (fun W h1 h2 => two_any ho F hF a b W h1 h2 hao hbo)
  have hsm := twspec_small bop a b
  have HN : Hid (noneB bop a b = match twspec bop a b with | .err _ => false | .set n f => decide (cntb f n = 0)) := rfl
  have HE : Hid (∀ k, twspec bop a b = .err k → k = 61 ∨ k = 60) := by
    intro k h
    unfold twspec at h
    split at h
    · injection h with h; exact .inl h.symm
    · split at h
      · injection h with h; exact .inr h.symm
      · cases h
  go_enter Try.func52, Try.ntmps52
  go_wp2_with fail
  refine (HTW.out _ (ha.below hbl0) (hb.below hbl0)).mono ?_
  intro x w1 hpost
  obtain ⟨s, e, rfl, hs, hb1⟩ := hpost.out
  have HS := Lib.hid (And.intro hs (And.intro (bl_t hbl0 hb1) (hs.ok hsm)))
  clear hs hb1 hpost hsm
  cases hk : twspec bop a b with
  | err k =>
    have hsk := HS.out.1
    rw [hk] at hsk
    obtain ⟨rfl, rfl⟩ := hsk
    have hke := HE.out k hk
    have hk0 : ((k : Int) == 0) = false := by rw [beq_eq_false_iff_ne]; omega
    have HP : Hid (noneB bop a b = false) := by unfold Hid; rw [HN.out, hk]
    clear hk hke
    go_wp2
    go_ret
    exact ⟨by rw [HP.out]; rfl, bl_a HS.out.2.1 _⟩
  | set n f =>
    have hsk := HS.out.1
    rw [hk] at hsk
    obtain ⟨h1, h2, h3, rfl⟩ := hsk
    have hsm := twspec_small bop a b
    rw [hk] at hsm
    have hcn : cn s.sz s.ws = cntb f n := by
      unfold cn
      rw [h1, if_pos (h3.mayB hsm), cnt_cntb]
      exact cntb_congr fun e he => by
        have he' : e < n := by simpa using he
        rw [h3.has]; simp [he']
    have HP : Hid (noneB bop a b = decide (cn s.sz s.ws = 0)) := by unfold Hid; rw [HN.out, hk, hcn]
    have HCO := Lib.hid (count_any s.sz s.A s.c s.ws (w1.alloc (.cells #[.int .i64 s.sz, .slice s.A s.ws.length s.c] 24)) (h2.rd.below (bl_a (Below.refl _ _) _)) HS.out.2.2.lt (by have := HS.out.2.2.len; omega))
    have hbv : (((cn s.sz s.ws : Nat) : Int) == 0) = decide (cn s.sz s.ws = 0) := by
      rw [Bool.eq_iff_iff, beq_iff_eq, decide_eq_true_iff]
      omega
    have HBV := Lib.hid hbv
    clear hk h1 h2 h3 hsm hcn hbv
    go_wp2_with fail
    refine HCO.out.mono ?_
    rintro x w2 ⟨rfl, hb2⟩
    go_wp2
    go_ret
    exact ⟨by rw [HP.out, ← HBV.out]; rfl, bl_t (bl_a HS.out.2.1 _) hb2⟩
set_option maxRecDepth 100000 in
set_option maxHeartbeats 4000000 in
theorem equal_any (a b : SV) (w : World) (ha : Rd w a.A a.ws) (hb : Rd w b.A b.ws) (hao : a.Ok) (hbo : b.Ok) :
    Calls Try.prog 28 #[.agg #[.int .i64 a.sz, .slice a.A a.ws.length a.c], .agg #[.int .i64 b.sz, .slice b.A b.ws.length b.c]] w fun x w' => x = .returned (.bool (noneB (fun x y => x ^^ y) a b)) ∧ Below w.heap.size w w' := by
  have hbl0 := bl_a (bl_a (Below.refl w.heap.size w) (.cells #[.int .i64 a.sz, .slice a.A a.ws.length a.c] 24)) (.cells #[.int .i64 b.sz, .slice b.A b.ws.length b.c] 24)
  have HNO := Lib.hid (fun W h1 h2 => nonef_any bop_xor 56 xor_any a b W h1 h2 hao hbo)
  go_enter Try.func28, Try.ntmps28
  go_wp2_with fail
  refine (HNO.out _ (ha.below hbl0) (hb.below hbl0)).mono ?_
  rintro x w1 ⟨rfl, hb1⟩
  go_wp2
  go_ret
  exact ⟨rfl, bl_t hbl0 hb1⟩
set_option maxRecDepth 100000 in
set_option maxHeartbeats 4000000 in
theorem subset_any (a b : SV) (w : World) (ha : Rd w a.A a.ws) (hb : Rd w b.A b.ws) (hao : a.Ok) (hbo : b.Ok) :
    Calls Try.prog 22 #[.agg #[.int .i64 a.sz, .slice a.A a.ws.length a.c], .agg #[.int .i64 b.sz, .slice b.A b.ws.length b.c]] w fun x w' => x = .returned (.bool (noneB (fun x y => x && !y) a b)) ∧ Below w.heap.size w w' := by
  have hbl0 := bl_a (bl_a (Below.refl w.heap.size w) (.cells #[.int .i64 a.sz, .slice a.A a.ws.length a.c] 24)) (.cells #[.int .i64 b.sz, .slice b.A b.ws.length b.c] 24)
  have HNO := Lib.hid (fun W h1 h2 => nonef_any bop_andNot 53 andNot_any a b W h1 h2 hao hbo)
  go_enter Try.func22, Try.ntmps22
  go_wp2_with fail
  refine (HNO.out _ (ha.below hbl0) (hb.below hbl0)).mono ?_
  rintro x w1 ⟨rfl, hb1⟩
  go_wp2
  go_ret
  exact ⟨rfl, bl_t hbl0 hb1⟩
set_option maxRecDepth 100000 in
set_option maxHeartbeats 4000000 in
theorem disjoint_any (a b : SV) (w : World) (ha : Rd w a.A a.ws) (hb : Rd w b.A b.ws) (hao : a.Ok) (hbo : b.Ok) :
    Calls Try.prog 31 #[.agg #[.int .i64 a.sz, .slice a.A a.ws.length a.c], .agg #[.int .i64 b.sz, .slice b.A b.ws.length b.c]] w fun x w' => x = .returned (.bool (noneB (fun x y => x && y) a b)) ∧ Below w.heap.size w w' := by
  have hbl0 := bl_a (bl_a (Below.refl w.heap.size w) (.cells #[.int .i64 a.sz, .slice a.A a.ws.length a.c] 24)) (.cells #[.int .i64 b.sz, .slice b.A b.ws.length b.c] 24)
  have HNO := Lib.hid (fun W h1 h2 => nonef_any bop_and 44 and_any a b W h1 h2 hao hbo)
  go_enter Try.func31, Try.ntmps31
  go_wp2_with fail
  refine (HNO.out _ (ha.below hbl0) (hb.below hbl0)).mono ?_
  rintro x w1 ⟨rfl, hb1⟩
  go_wp2
  go_ret
  exact ⟨rfl, bl_t hbl0 hb1⟩
end Go.Proofs.Ytlmjfcieiengcaa
