/- Sets put together: what the words say; the functions handed in; bitset.fold for words of the call's own, nil too. -/
import Derived.Test.YtlmjfcieiengcaaFold
import Derived.Test.YtlmjfcieiengcaaOwn
import Derived.Shelf.Abstract
namespace Go.Proofs.Ytlmjfcieiengcaa
open Go.RowKit
/-- an operation bit by bit -/
structure BOp (op : Nat → Nat → Nat) (bop : Bool → Bool → Bool) : Prop where
  lt : ∀ a b, a < 18446744073709551616 → b < 18446744073709551616 → op a b < 18446744073709551616
  bit : ∀ a b i, a < 18446744073709551616 → b < 18446744073709551616 → i < 64 → (op a b).testBit i = bop (a.testBit i) (b.testBit i)
  ff : bop false false = false
theorem bop_or : BOp (fun a b => a ||| b) (fun x y => x || y) := ⟨fun _ _ => or_lt64, fun a b i _ _ _ => Nat.testBit_or a b i, rfl⟩
theorem bop_and : BOp (fun a b => a &&& b) (fun x y => x && y) := ⟨fun _ _ h _ => Nat.lt_of_le_of_lt Nat.and_le_left h, fun a b i _ _ _ => Nat.testBit_and a b i, rfl⟩
theorem bop_andNot : BOp (fun a b => a &&& (18446744073709551615 - b)) (fun x y => x && !y) := ⟨fun _ _ h _ => Nat.lt_of_le_of_lt Nat.and_le_left h, fun a b i _ hb hi => by rw [Nat.testBit_and, not_bit _ _ hb]; simp [hi], rfl⟩
theorem bop_xor : BOp (fun a b => a ^^^ b) (fun x y => x ^^ y) := ⟨fun a b ha hb => by
  have : (18446744073709551616 : Nat) = 2 ^ 64 := by decide
  rw [this] at *
  exact Nat.xor_lt_two_pow ha hb, fun a b i _ _ _ => Nat.testBit_xor a b i, rfl⟩
theorem Ws.zip {op : Nat → Nat → Nat} {bop : Bool → Bool → Bool} (ho : BOp op bop) {bs ws : List Nat} {n : Nat} {f g : Nat → Bool} (h : Ws bs n f) (k : Ws ws n g) : Ws (zipw op bs ws) n (fun e => bop (f e) (g e)) := by
  refine ⟨by rw [zipw_length, h.len], fun j => ?_, fun e => ?_⟩
  · by_cases hj : j < bs.length
    · rw [wd_zipw _ _ _ hj]
      exact ho.lt _ _ (h.lt _) (k.lt _)
    · rw [wd_ge (by rw [zipw_length]; omega)]
      decide
  · by_cases hj : e / 64 < bs.length
    · have h1 := h.has e
      have h2 := k.has e
      unfold mem at h1 h2 ⊢
      rw [wd_zipw _ _ _ hj, ho.bit _ _ _ (h.lt _) (k.lt _) (by omega), h1, h2]
      by_cases he : e < n
      · simp [he]
      · simp [he, ho.ff]
    · rw [mem_ge (by rw [zipw_length]; omega)]
      have := h.len
      rw [nw_eq] at this
      have he : ¬ e < n := by omega
      simp [he]
/-- what j sets make of a truth -/
def ff (bop : Bool → Bool → Bool) (l : List SV) (f : Nat → Bool) : Nat → Nat → Bool
  | 0 => f
  | j + 1 => fun e => bop (ff bop l f j e) (mem (sd l j).ws e)
theorem Ws.fold {op : Nat → Nat → Nat} {bop : Bool → Bool → Bool} (ho : BOp op bop) {bs : List Nat} {n : Nat} {f : Nat → Bool} {l : List SV} (h : Ws bs n f) (hl : ∀ s ∈ l, Ws s.ws n (mem s.ws)) :
    ∀ j, j ≤ l.length → Ws (fw op bs l j) n (ff bop l f j) := by
  intro j
  induction j with
  | zero => intro _; exact h
  | succ j ih => intro hj; exact (ih (by omega)).zip ho (hl _ (sd_mem (by omega)))
/-- words in new memory, or none -/
structure OwnR (w w' : World) (A : Option Addr) (c : Nat) (ws : List Nat) : Prop where
  rd : Rd w' A ws
  nil : A = none → ws.length = 0 ∧ c = 0
  cap : ws.length ≤ c
  own : ∀ a, A = some a → w.heap.size ≤ a.block ∧ a.off = 0 ∧ a.spot = none ∧ WB w' a.block ws
def SAP (an : SA) (w : World) (x : Ending) (w' : World) : Prop :=
  Below w.heap.size w w' ∧ match an with
  | .err e => x = .returned (.tuple #[.agg #[.int .i64 0, .slice none 0 0], .int .i64 e])
  | .set n f => ∃ A c ws, x = .returned (.tuple #[.agg #[.int .i64 n, .slice A (ws : List Nat).length c], .int .i64 0]) ∧ OwnR w w' A c ws ∧ Ws ws n f
theorem SAPost.sap {an : SA} {w w' : World} {x : Ending} (h : SAPost an w x w') : SAP an w x w' := by
  obtain ⟨hb, h⟩ := h
  refine ⟨hb, ?_⟩
  cases an with
  | err e => exact h
  | set n f =>
    obtain ⟨g, ws, h1, h2, h3, h4⟩ := h
    exact ⟨_, _, ws, h1, ⟨h3.rd, (fun h => by cases h), Nat.le_refl _, fun a h => by injection h with h; subst h; exact ⟨h2, rfl, rfl, h3⟩⟩, h4⟩
section
variable (F : FuncId)
/-- the function only reckons -/
def Reck (op : Nat → Nat → Nat) (F : FuncId) : Prop :=
  (∀ (a b : Nat) (W : World), a < 18446744073709551616 → b < 18446744073709551616 → Calls Try.prog F #[.int .u64 a, .int .u64 b] W fun x w' => x = .returned (.int .u64 (op a b : Nat)) ∧ W = w') ∧ ∀ args W, (callFunc F args).run Try.prog W = .ok (.enter F args) W
end
theorem or_any : Reck (fun a b => a ||| b) 51 := by
  refine ⟨fun a b W ha hb => ?_, enters_of Try.func51 (by kernel_rfl) rfl⟩
  have h := u64_or_nat a b ha hb
  go_enter Try.func51, Try.ntmps51
  go_wp2
  go_ret
  exact ⟨rfl, rfl⟩
theorem and_any : Reck (fun a b => a &&& b) 44 := by
  refine ⟨fun a b W ha hb => ?_, enters_of Try.func44 (by kernel_rfl) rfl⟩
  have h := u64_and_nat a b ha hb
  go_enter Try.func44, Try.ntmps44
  go_wp2
  go_ret
  exact ⟨rfl, rfl⟩
theorem andNot_any : Reck (fun a b => a &&& (18446744073709551615 - b)) 53 := by
  refine ⟨fun a b W ha hb => ?_, enters_of Try.func53 (by kernel_rfl) rfl⟩
  have h := u64_andNot_nat a b ha hb
  go_enter Try.func53, Try.ntmps53
  go_wp2
  go_ret
  exact ⟨rfl, rfl⟩
theorem xor_any : Reck (fun a b => a ^^^ b) 56 := by
  refine ⟨fun a b W ha hb => ?_, enters_of Try.func56 (by kernel_rfl) rfl⟩
  have h := u64_xor_nat a b ha hb
  go_enter Try.func56, Try.ntmps56
  go_wp2
  go_ret
  exact ⟨rfl, rfl⟩
theorem OwnR.below {w W W' : World} {A : Option Addr} {c : Nat} {ws : List Nat} (h : OwnR w W A c ws) (hb : Below W.heap.size W W') : OwnR w W' A c ws :=
  ⟨h.rd.below hb, h.nil, h.cap, fun a ha => by obtain ⟨h1, h2, h3, h4⟩ := h.own a ha; exact ⟨h1, h2, h3, h4.below hb⟩⟩
theorem OwnR.lower {w w0 W : World} {A : Option Addr} {c : Nat} {ws : List Nat} (h : OwnR w W A c ws) (hs : w0.heap.size ≤ w.heap.size) : OwnR w0 W A c ws :=
  ⟨h.rd, h.nil, h.cap, fun a ha => by obtain ⟨h1, h2⟩ := h.own a ha; exact ⟨Nat.le_trans hs h1, h2⟩⟩
theorem OwnR.other {w W : World} {A : Option Addr} {c : Nat} {ws : List Nat} (h : OwnR w W A c ws) {p : Addr} (hp : p.block < w.heap.size) (u : Value) : OwnR w (W.setCell p u) A c ws := by
  refine ⟨?_, h.nil, h.cap, fun a ha => ?_⟩
  · intro j hj
    obtain ⟨b, off, hA, hlt, _⟩ := h.rd j hj
    obtain ⟨h1, h2, h3, h4⟩ := h.own _ hA
    simp only at h1 h2 h4
    subst h2
    have h5 := (h4.other (p := p) (by omega) u).rd j hj
    rw [hA]
    exact h5
  · obtain ⟨h1, h2, h3, h4⟩ := h.own a ha
    exact ⟨h1, h2, h3, h4.other (by omega) u⟩
theorem Rd.blk {w : World} {A : Option Addr} {ws : List Nat} (h : Rd w A ws) (h0 : 0 < ws.length) {a : Addr} (hA : A = some a) : a.block < w.heap.size := by
  obtain ⟨b, off, h1, h2, _⟩ := h 0 h0
  rw [hA] at h1
  injection h1 with h1
  subst h1
  exact h2
theorem rdS_one {W : World} {k : Nat} {b : SV} {t : TypeId} (h : W.heap[k]? = some (.cells #[.int .i64 b.sz, .slice b.A b.ws.length b.c] t (0, 0))) (hr : Rd W b.A b.ws) : RdS W (some ⟨k, 0, none⟩) [b] := by
  intro j hj
  obtain rfl : j = 0 := by simp at hj; omega
  obtain ⟨h1, h2, _, _, h3⟩ := blk2 h
  exact ⟨k, 0, rfl, h3, h1, h2, hr⟩
set_option maxRecDepth 100000 in
set_option maxHeartbeats 10000000 in
theorem foldnil_any (F : FuncId) (sz : Int) (A : Option Addr) (c0 : Nat) (B : Option Addr) (d : Nat) (l : List SV) (w : World) (hl : RdS w B l) (hlen : ∀ s ∈ l, s.ws.length = 0) (hn : l.length ≤ 9223372036854775807) :
    Calls Try.prog 50 #[.agg #[.int .i64 sz, .slice A 0 c0], .slice B l.length d, .func (.func F) #[] #[]] w fun x w' => x = .returned (.agg #[.int .i64 sz, .slice A 0 c0]) ∧ Below w.heap.size w w' := by
  have HLEN := Lib.hid hlen
  clear hlen
  go_enter Try.func50, Try.ntmps50
  go_wp2
  go_loopw [13] (fun i wr => ∃ j : Nat, i = .int .i64 j ∧ j ≤ l.length ∧ wr.heap[w.heap.size]? = some (.cells #[.int .i64 sz, .slice A 0 c0] 24 (0, 0)) ∧ wr.heap[w.heap.size + 1]? = some (.cells #[.int .i64 0, .slice none 0 0] 24 (0, 0)) ∧ Below w.heap.size w wr) (fun i _ => l.length - (intOf i).toNat)
  case atStart => exact ⟨0, rfl, Nat.zero_le _, (ha_old _ _ _ (by simp)).trans (ha_new _ _ _ rfl), ha_new _ _ _ (by simp), bl_a (bl_a (Below.refl _ _) _) _⟩
  case round =>
    obtain ⟨j, rfl, hj, hbx, hby, hgr⟩ := hrel
    obtain ⟨p0, p1, f0, f1, hg0⟩ := blk2 hbx
    by_cases hlt2 : j < l.length
    · obtain ⟨b, off, rfl, hblt, h1, h2, _⟩ := (hl.below hgr) j hlt2
      rw [HLEN.out _ (sd_mem hlt2)] at h2
      have HBX := Lib.hid (And.intro hbx (And.intro hby hgr))
      obtain ⟨wo, rfl⟩ : ∃ wo : World, wo = wr := ⟨_, rfl⟩
      clear hbx hby hgr
      go_wp2
      go_loopw [20] (fun i wi => i = .int .i64 0 ∧ wi = wo.alloc (.cells #[.int .i64 (sd l j).sz, .slice (sd l j).A 0 (sd l j).c] 24)) (fun _ _ => 0)
      case atStart => exact ⟨rfl, rfl⟩
      case round =>
        obtain ⟨rfl, rfl⟩ := hrel
        go_wp2
        go_roundw
        case rel => exact ⟨j + 1, by go_num, by omega, (ha_old _ _ _ (blk_lt HBX.out.1)).trans HBX.out.1, (ha_old _ _ _ (blk_lt HBX.out.2.1)).trans HBX.out.2.1, bl_a HBX.out.2.2 _⟩
        case measure => simp [intOf]; omega
    · obtain rfl : j = l.length := by omega
      have hy0 := hby
      obtain ⟨q0, q1, r0, r1, hg1⟩ := blk2 hby
      go_wp2
      refine bodyPost_ret (res_c rfl _ _ (w.heap.size + 1) 24 #[.int .i64 sz, .slice A 0 c0] (0, 0) _ rfl (hs_same (hs_same hy0 0 _) 1 _) Try.underlying24 rfl (by kernel_rfl)) rfl ?_
      exact ⟨rfl, bl_s (bl_s hgr (by simp) _) (by simp) _⟩
/-- fold for words of the call's own, nil too -/
theorem foldown_any {op : Nat → Nat → Nat} {bop : Bool → Bool → Bool} (ho : BOp op bop) (F : FuncId) (hF : Reck op F) (w0 : World) (sz : Int) (A : Option Addr) (c0 : Nat) (bs : List Nat) (B : Option Addr) (d : Nat) (l : List SV) (w : World)
    (hown : OwnR w0 w A c0 bs) (h0 : Below w0.heap.size w0 w) (hbs : ∀ j, wd bs j < 18446744073709551616) (hbl : bs.length ≤ 64) (hl : RdS w B l) (hB : 0 < l.length → ∀ b off, B = some ⟨b, off, none⟩ → ∀ a, A = some a → b ≠ a.block) (hok : ∀ s ∈ l, ∀ j, wd s.ws j < 18446744073709551616) (hlen : ∀ s ∈ l, s.ws.length = bs.length)
    (hsrc : ∀ s ∈ l, 0 < s.ws.length → ∀ a b, A = some a → s.A = some b → b.block ≠ a.block) (hn : l.length ≤ 9223372036854775807) :
    Calls Try.prog 50 #[.agg #[.int .i64 sz, .slice A bs.length c0], .slice B l.length d, .func (.func F) #[] #[]] w fun x w' => x = .returned (.agg #[.int .i64 sz, .slice A bs.length c0]) ∧ OwnR w0 w' A c0 (fw op bs l l.length) ∧ Below w0.heap.size w0 w' := by
  cases A with
  | none =>
    obtain ⟨h1, h2⟩ := hown.nil rfl
    have hb0 : bs = [] := List.eq_nil_of_length_eq_zero h1
    subst hb0
    refine (foldnil_any F sz none c0 B d l w hl hlen hn).mono ?_
    rintro x w' ⟨rfl, hb⟩
    have h3 : fw op [] l l.length = [] := List.eq_nil_of_length_eq_zero (by rw [fw_length]; rfl)
    rw [h3]
    exact ⟨rfl, ⟨RdK.nil _ _ _, hown.nil, hown.cap, fun a h => by cases h⟩, bl_t h0 hb⟩
  | some a =>
    obtain ⟨h1, h2, h3, h4⟩ := hown.own a rfl
    obtain ⟨g, off, spot⟩ := a
    simp only at h1 h2 h3 h4
    subst h2 h3
    refine (fold_any op F sz g c0 bs B d l w ho.lt hF.1 hF.2 h4 hbs hbl hl (fun h0 b off h => hB h0 b off h _ rfl) hok hlen (src_apart hlen (fun s hs => ?_) (fun s hs h0 b hb => hsrc s hs h0 _ b rfl hb)) hn).mono ?_
    · obtain ⟨k, hk, rfl⟩ := List.mem_iff_getElem.1 hs
      obtain ⟨_, _, _, _, _, _, h⟩ := hl k hk
      rw [sd_lt hk] at h
      exact h
    · rintro x w' ⟨rfl, hw, hg⟩
      exact ⟨rfl, ⟨hw.rd, (fun h => by cases h), by rw [fw_length]; exact hown.cap, fun a h => by injection h with h; subst h; exact ⟨h1, rfl, rfl, hw⟩⟩, bl_g h0 hg h1⟩
end Go.Proofs.Ytlmjfcieiengcaa
