/- What BitLattice asks of sets of one universe: each call's answer; equal, within, apart; how many. -/
import Derived.Test.YtlmjfcieiengcaaLun
namespace Go.Proofs.Ytlmjfcieiengcaa
open Go.RowKit
def SB (W : World) (b : Nat) (s : SV) : Prop := W.heap[b]? = some (.cells #[.int .i64 s.sz, .slice s.A s.ws.length s.c] 24 (0, 0)) ∧ Rd W s.A s.ws
/-- the sets that the call keeps -/
structure Env (w W : World) (L : List (Nat × SV)) : Prop where
  bl : Below w.heap.size w W
  all : ∀ p ∈ L, SB W p.1 p.2
theorem Env.step {w W W' : World} {L : List (Nat × SV)} (h : Env w W L) (hb : Below W.heap.size W W') : Env w W' L :=
  ⟨bl_t h.bl hb, fun p hp => ⟨(hb.block _ (blk_lt (h.all p hp).1)).trans (h.all p hp).1, (h.all p hp).2.below hb⟩⟩
theorem Env.box {w W : World} {L : List (Nat × SV)} (h : Env w W L) (s : SV) (hr : Rd W s.A s.ws) : Env w (W.alloc (.cells #[.int .i64 s.sz, .slice s.A s.ws.length s.c] 24)) ((W.heap.size, s) :: L) := by
  have h1 := h.step (bl_a (Below.refl W.heap.size W) (.cells #[.int .i64 s.sz, .slice s.A s.ws.length s.c] 24))
  refine ⟨h1.bl, fun p hp => ?_⟩
  rcases List.mem_cons.1 hp with rfl | hp
  · exact ⟨ha_new _ _ _ rfl, hr.below (bl_a (Below.refl _ _) _)⟩
  · exact h1.all p hp
theorem Env.nil {w W : World} (h : Below w.heap.size w W) : Env w W [] := ⟨h, fun p hp => by cases hp⟩
/-- an answer that is a set of the universe n, f of it -/
def FitP (n : Nat) (f : Nat → Bool) (u : Value) (w : World) (x : Ending) (w' : World) : Prop :=
  ∃ s : SV, x = .returned (.tuple #[.agg #[.int .i64 s.sz, .slice s.A s.ws.length s.c], u]) ∧ Fit n s ∧ Rd w' s.A s.ws ∧ (∀ e, e < n → mem s.ws e = f e) ∧ Below w.heap.size w w'
theorem fitp_of {n : Nat} {f : Nat → Bool} {w w' : World} {x : Ending} (hn : n ≤ 4096) (h : SAP (.set n f) w x w') : FitP n f (.int .i64 0) w x w' := by
  obtain ⟨s, e, rfl, hs, hb⟩ := h.out
  obtain ⟨h1, h2, h3, rfl⟩ := hs
  exact ⟨s, rfl, ⟨h1, h3.self, h3.lt, h2.nil, by rw [h3.len, nw_eq]; omega, h2.cap⟩, h2.rd, fun e he => by rw [h3.has]; simp [he], hb⟩
theorem tw_fit {n : Nat} {a b : SV} (bop : Bool → Bool → Bool) (ha : Fit n a) (hb : Fit n b) (hn : n ≤ 4096) : twspec bop a b = .set n (fun e => bop (mem a.ws e) (mem b.ws e)) := by
  unfold twspec
  rw [if_neg (by
    rintro (h | h)
    · rw [ha.may hn] at h; cases h
    · rw [hb.may hn] at h; cases h), if_neg (by rw [ha.sz, hb.sz]; simp), ha.sz]
  rfl
theorem minus_fit (n : Nat) (a b : SV) (w : World) (ha : Fit n a) (hb : Fit n b) (hra : Rd w a.A a.ws) (hrb : Rd w b.A b.ws) (hn : n ≤ 4096) :
    Calls Try.prog 23 #[.agg #[.int .i64 a.sz, .slice a.A a.ws.length a.c], .agg #[.int .i64 b.sz, .slice b.A b.ws.length b.c]] w (FitP n (fun e => mem a.ws e && !mem b.ws e) (.int .i64 0) w) :=
  (minus_any a b w hra hrb ha.ok hb.ok).mono fun _ _ h => fitp_of hn (by rw [tw_fit _ ha hb hn] at h; exact h)
theorem differ_fit (n : Nat) (a b : SV) (w : World) (ha : Fit n a) (hb : Fit n b) (hra : Rd w a.A a.ws) (hrb : Rd w b.A b.ws) (hn : n ≤ 4096) :
    Calls Try.prog 30 #[.agg #[.int .i64 a.sz, .slice a.A a.ws.length a.c], .agg #[.int .i64 b.sz, .slice b.A b.ws.length b.c]] w (FitP n (fun e => mem a.ws e ^^ mem b.ws e) (.int .i64 0) w) :=
  (differ_any a b w hra hrb ha.ok hb.ok).mono fun _ _ h => fitp_of hn (by rw [tw_fit _ ha hb hn] at h; exact h)
theorem rest_fit (n : Nat) (a : SV) (w : World) (ha : Fit n a) (hra : Rd w a.A a.ws) (hn : n ≤ 4096) :
    Calls Try.prog 29 #[.agg #[.int .i64 a.sz, .slice a.A a.ws.length a.c]] w (FitP n (fun e => !mem a.ws e) (.int .i64 0) w) :=
  (rest_any a w hra ha.ok).mono fun _ _ h => fitp_of hn (by
    have hs : rsspec a = .set n (fun e => !mem a.ws e) := by
      unfold rsspec
      rw [if_neg (by rw [ha.may hn]; simp), ha.sz]
      rfl
    rw [hs] at h
    exact h)
theorem union_fit (n : Nat) (a b : SV) (w : World) (ha : Fit n a) (hb : Fit n b) (hra : Rd w a.A a.ws) (hrb : Rd w b.A b.ws) (hn : n ≤ 4096) :
    Calls Try.prog 26 #[.int .i64 n, .agg #[.int .i64 a.sz, .slice a.A a.ws.length a.c], .agg #[.int .i64 b.sz, .slice b.A b.ws.length b.c]] w (FitP n (fun e => mem a.ws e || mem b.ws e) (.bool true) w) :=
  lunion_any n a b w ha hb hra hrb hn
theorem inter_fit (n : Nat) (a b : SV) (w : World) (ha : Fit n a) (hb : Fit n b) (hra : Rd w a.A a.ws) (hrb : Rd w b.A b.ws) (hn : n ≤ 4096) :
    Calls Try.prog 27 #[.int .i64 n, .agg #[.int .i64 a.sz, .slice a.A a.ws.length a.c], .agg #[.int .i64 b.sz, .slice b.A b.ws.length b.c]] w (FitP n (fun e => mem a.ws e && mem b.ws e) (.bool true) w) :=
  linter_any n a b w ha hb hra hrb hn
theorem rdS_three {W : World} {k : Nat} {a b c : SV} {t : TypeId} (h : W.heap[k]? = some (.cells #[.int .i64 a.sz, .slice a.A a.ws.length a.c, .int .i64 b.sz, .slice b.A b.ws.length b.c, .int .i64 c.sz, .slice c.A c.ws.length c.c] t (0, 0))) (ha : Rd W a.A a.ws) (hb : Rd W b.A b.ws) (hc : Rd W c.A c.ws) : RdS W (some ⟨k, 0, none⟩) [a, b, c] := by
  intro j hj
  have hj2 : j = 0 ∨ j = 1 ∨ j = 2 := by simp at hj; omega
  refine ⟨k, 0, rfl, blk_lt h, ?_⟩
  rcases hj2 with rfl | rfl | rfl
  · refine ⟨?_, ?_, ha⟩ <;> simp [World.cell?, h, sd]
  · refine ⟨?_, ?_, hb⟩ <;> simp [World.cell?, h, sd]
  · refine ⟨?_, ?_, hc⟩ <;> simp [World.cell?, h, sd]
theorem union3_fit (n : Nat) (a b c : SV) (W : World) (k : Nat) (hk : k = W.heap.size) (ha : Fit n a) (hb : Fit n b) (hc : Fit n c) (hra : Rd W a.A a.ws) (hrb : Rd W b.A b.ws) (hrc : Rd W c.A c.ws) (hn : n ≤ 4096) :
    Calls Try.prog 21 #[.int .i64 n, .slice (some ⟨k, 0, none⟩) 3 3] (W.alloc (.cells #[.int .i64 a.sz, .slice a.A a.ws.length a.c, .int .i64 b.sz, .slice b.A b.ws.length b.c, .int .i64 c.sz, .slice c.A c.ws.length c.c] 24)) (FitP n (fun e => (mem a.ws e || mem b.ws e) || mem c.ws e) (.int .i64 0) W) := by
  have hb0 := bl_a (Below.refl W.heap.size W) (.cells #[.int .i64 a.sz, .slice a.A a.ws.length a.c, .int .i64 b.sz, .slice b.A b.ws.length b.c, .int .i64 c.sz, .slice c.A c.ws.length c.c] 24)
  have hl := rdS_three (ha_new W (.cells #[.int .i64 a.sz, .slice a.A a.ws.length a.c, .int .i64 b.sz, .slice b.A b.ws.length b.c, .int .i64 c.sz, .slice c.A c.ws.length c.c] 24) k hk) (hra.below hb0) (hrb.below hb0) (hrc.below hb0)
  have hfit : fitE n [a, b, c] = 0 := by
    unfold fitE
    have hs : szB n = true := by unfold szB; simp; omega
    have h1 := ha.may hn
    have h2 := hb.may hn
    have h3 := hc.may hn
    rw [ha.sz] at h1
    rw [hb.sz] at h2
    rw [hc.sz] at h3
    simp [h1, h2, h3, hs, ha.sz, hb.sz, hc.sz]
  refine (union_any n (some ⟨k, 0, none⟩) 3 [a, b, c] _ hl (by intro s hs; simp at hs; rcases hs with rfl | rfl | rfl; exact ha.ok; exact hb.ok; exact hc.ok) (by simp)).mono fun x w' h => ?_
  have hsp : unspec (fun x y => x || y) (fun _ => false) n [a, b, c] = .set n (fun e => ((false || mem a.ws e) || mem b.ws e) || mem c.ws e) := by unfold unspec; rw [if_pos hfit]; rfl
  rw [hsp] at h
  obtain ⟨s, h1, h2, h3, h4, h5⟩ := fitp_of hn h
  exact ⟨s, h1, h2, h3, fun e he => by rw [h4 e he]; simp, bl_t hb0 h5⟩
theorem same_fit {n : Nat} {x y : SV} (hx : Fit n x) (hy : Fit n y) (h : ∀ e, e < n → mem x.ws e = mem y.ws e) : sameB x.sz y.sz x.ws y.ws = true := by
  unfold sameB
  rw [decide_eq_true_iff]
  exact ⟨by rw [hx.sz, hy.sz], hx.ws.unique hy.ws h⟩
theorem sames_fit (n : Nat) (x y : SV) (w : World) (hx : Fit n x) (hy : Fit n y) (hrx : Rd w x.A x.ws) (hry : Rd w y.A y.ws) (h : ∀ e, e < n → mem x.ws e = mem y.ws e) :
    Calls Try.prog 9 #[.agg #[.int .i64 x.sz, .slice x.A x.ws.length x.c], .agg #[.int .i64 y.sz, .slice y.A y.ws.length y.c]] w fun e w' => e = .returned (.bool true) ∧ Below w.heap.size w w' := by
  have := same_any x.sz y.sz x.A y.A x.c y.c x.ws y.ws w hrx hry (by have := hx.ok.len; omega)
  rw [same_fit hx hy h] at this
  exact this
theorem cntb_zero {f : Nat → Bool} {n : Nat} (h : ∀ e, e < n → f e = false) : cntb f n = 0 := by
  induction n with
  | zero => rfl
  | succ n ih => rw [cntb, ih fun e he => h e (by omega), h n (by omega)]; rfl
theorem none_fit {n : Nat} {a b : SV} {bop : Bool → Bool → Bool} (ha : Fit n a) (hb : Fit n b) (hn : n ≤ 4096) (h : ∀ e, e < n → bop (mem a.ws e) (mem b.ws e) = false) : noneB bop a b = true := by
  unfold noneB
  rw [tw_fit bop ha hb hn]
  simp only [decide_eq_true_iff]
  exact cntb_zero h
theorem equal_fit (n : Nat) (a b : SV) (w : World) (ha : Fit n a) (hb : Fit n b) (hra : Rd w a.A a.ws) (hrb : Rd w b.A b.ws) (hn : n ≤ 4096) (h : ∀ e, e < n → mem a.ws e = mem b.ws e) :
    Calls Try.prog 28 #[.agg #[.int .i64 a.sz, .slice a.A a.ws.length a.c], .agg #[.int .i64 b.sz, .slice b.A b.ws.length b.c]] w fun e w' => e = .returned (.bool true) ∧ Below w.heap.size w w' := by
  have := equal_any a b w hra hrb ha.ok hb.ok
  rw [none_fit ha hb hn (fun e he => by rw [h e he]; simp)] at this
  exact this
theorem subset_fit (n : Nat) (a b : SV) (w : World) (ha : Fit n a) (hb : Fit n b) (hra : Rd w a.A a.ws) (hrb : Rd w b.A b.ws) (hn : n ≤ 4096) (h : ∀ e, e < n → mem a.ws e = true → mem b.ws e = true) :
    Calls Try.prog 22 #[.agg #[.int .i64 a.sz, .slice a.A a.ws.length a.c], .agg #[.int .i64 b.sz, .slice b.A b.ws.length b.c]] w fun e w' => e = .returned (.bool true) ∧ Below w.heap.size w w' := by
  have := subset_any a b w hra hrb ha.ok hb.ok
  rw [none_fit ha hb hn (fun e he => by
    cases h1 : mem a.ws e with
    | false => rfl
    | true => rw [h e he h1]; rfl)] at this
  exact this
theorem disjoint_fit (n : Nat) (a b : SV) (w : World) (ha : Fit n a) (hb : Fit n b) (hra : Rd w a.A a.ws) (hrb : Rd w b.A b.ws) (hn : n ≤ 4096) (h : ∀ e, e < n → (mem a.ws e && mem b.ws e) = false) :
    Calls Try.prog 31 #[.agg #[.int .i64 a.sz, .slice a.A a.ws.length a.c], .agg #[.int .i64 b.sz, .slice b.A b.ws.length b.c]] w fun e w' => e = .returned (.bool true) ∧ Below w.heap.size w w' := by
  have := disjoint_any a b w hra hrb ha.ok hb.ok
  rw [none_fit ha hb hn h] at this
  exact this
theorem cn_fit {n : Nat} {s : SV} (h : Fit n s) (hn : n ≤ 4096) : cn s.sz s.ws = cntb (mem s.ws) n := by
  unfold cn
  rw [if_pos (h.may hn), h.sz, cnt_cntb]
  rfl
theorem cntb_add {f g u i : Nat → Bool} {n : Nat} (h1 : ∀ e, e < n → u e = (f e || g e)) (h2 : ∀ e, e < n → i e = (f e && g e)) : cntb u n + cntb i n = cntb f n + cntb g n := by
  induction n with
  | zero => rfl
  | succ n ih =>
    have := ih (fun e he => h1 e (by omega)) (fun e he => h2 e (by omega))
    rw [cntb, cntb, cntb, cntb, h1 n (by omega), h2 n (by omega)]
    cases f n <;> cases g n <;> simp <;> omega
theorem cntb_rest {f r : Nat → Bool} {n : Nat} (h : ∀ e, e < n → r e = !f e) : cntb f n + cntb r n = n := by
  induction n with
  | zero => rfl
  | succ n ih =>
    have := ih (fun e he => h e (by omega))
    rw [cntb, cntb, h n (by omega)]
    cases f n <;> simp <;> omega
theorem make_fit {n m : Nat} {f : Nat → Bool} {w w' : World} {x : Ending} (hn : n ≤ 4096) (hm : m = n) (h : SAPost (.set m f) w x w') : FitP n f (.int .i64 0) w x w' := by
  subst hm
  exact fitp_of hn h.sap
end Go.Proofs.Ytlmjfcieiengcaa
