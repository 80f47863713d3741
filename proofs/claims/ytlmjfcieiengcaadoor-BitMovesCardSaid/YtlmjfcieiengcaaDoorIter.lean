/- bitset.own, bitset.All and the iterator that it hands back: all elements, rising, for every loop body that keeps what lay below. -/
import Derived.Test.YtlmjfcieiengcaaDoorTz
import Derived.Test.YtlmjfcieiengcaaDoorTwin
import Derived.RangeFuncNested
import Derived.RangeFuncBound
import Derived.RangeFuncCalls
import Derived.RangeFuncLeaves
import Derived.Shelf.Abstract
import Derived.Shelf.RegionOpen
import Derived.OwnWalkIn
import Derived.TacticsInMore
import Derived.LoopNIn
import Derived.LoopIn
namespace Go.Proofs.YtlmjfcieiengcaaDoor
open Go.RowKit Go.Shelf
attribute [local go_sem] Oper.semAt_some
/-- an element -/
abbrev El (ws : List Nat) := { e : Nat // mem ws e = true }
def el? (ws : List Nat) (e : Nat) : Option (El ws) := if h : mem ws e = true then some ⟨e, h⟩ else none
def upto (ws : List Nat) (n : Nat) : List (El ws) := (List.range n).filterMap (el? ws)
theorem upto_succ (ws : List Nat) (n : Nat) : upto ws (n + 1) = upto ws n ++ (el? ws n).toList := by
  unfold upto
  rw [List.range_succ, List.filterMap_append]
  cases h : el? ws n <;> simp [h]
theorem upto_skip {ws : List Nat} {a : Nat} : ∀ (d : Nat), (∀ e, a ≤ e → e < a + d → mem ws e = false) → upto ws (a + d) = upto ws a := by
  intro d
  induction d with
  | zero => intro _; rfl
  | succ d ih =>
    intro h
    rw [← Nat.add_assoc, upto_succ, ih (fun e h1 h2 => h e h1 (by omega))]
    have := h (a + d) (by omega) (by omega)
    simp [el?, this]
theorem upto_to {ws : List Nat} {a b : Nat} (hab : a ≤ b) (h : ∀ e, a ≤ e → e < b → mem ws e = false) : upto ws b = upto ws a := by
  obtain ⟨d, rfl⟩ : ∃ d, b = a + d := ⟨b - a, by omega⟩
  exact upto_skip d h
theorem upto_next {ws : List Nat} {a b : Nat} (hab : a ≤ b) (h : ∀ e, a ≤ e → e < b → mem ws e = false) (hb : mem ws b = true) : upto ws (b + 1) = upto ws a ++ [⟨b, hb⟩] := by
  rw [upto_succ, upto_to hab h]
  simp [el?, hb]
theorem upto_le (ws : List Nat) (n : Nat) : (upto ws n).length ≤ n := by
  have := List.length_filterMap_le (el? ws) (List.range n)
  simpa [upto] using this
/-- the blocks of K are kept -/
structure Keeps (K : Nat → Prop) (W W' : World) : Prop where
  size : W.heap.size ≤ W'.heap.size
  same : ∀ k, K k → W'.heap[k]? = W.heap[k]?
theorem Keeps.refl (K : Nat → Prop) (W : World) : Keeps K W W := ⟨Nat.le_refl _, fun _ _ => rfl⟩
theorem Keeps.trans {K : Nat → Prop} {A B C : World} (h : Keeps K A B) (k : Keeps K B C) : Keeps K A C := ⟨Nat.le_trans h.size k.size, fun j hj => (k.same j hj).trans (h.same j hj)⟩
theorem Keeps.cell {K : Nat → Prop} {A B : World} (h : Keeps K A B) {b o : Nat} (hb : K b) : B.cell? ⟨b, o, none⟩ = A.cell? ⟨b, o, none⟩ := by
  simp [World.cell?, h.same b hb]
theorem Keeps.below {K : Nat → Prop} {A B : World} {n : Nat} (h : Below n A B) (hK : ∀ k, K k → k < n) : Keeps K A B := ⟨h.size, fun k hk => h.block k (hK k hk)⟩
theorem Keeps.grown {K : Nat → Prop} {A B : World} {g : Nat} (h : A.grownBy B (some g)) (hK : ∀ k, K k → k < A.heap.size ∧ k ≠ g) : Keeps K A B := ⟨h.size, fun k hk => h.block k (hK k hk).1 (by intro e; injection e with e; exact (hK k hk).2 e)⟩
theorem TabOk.keeps {K : Nat → Prop} {w w' : World} (h : TabOk w) (hb : Keeps K w w') (hK : K 0) : TabOk w' :=
  ⟨fun j hj => (hb.cell hK).trans (h.1 j hj), Nat.lt_of_lt_of_le h.2 hb.size⟩
set_option maxRecDepth 100000 in
set_option maxHeartbeats 4000000 in
theorem all1_in (n : Nat) (l Bs c : Nat) (K : Nat → Prop) (A : Option Addr) (ws : List Nat) (hl : ws.length ≤ 64) (hlt : ∀ j, wd ws j < 18446744073709551616) (J Jx : List (El ws) → World → Prop)
    (hY : ∀ pre x W, J pre W → pre.length < 64 * ws.length + 1 → YieldAt Fence.wide (n - 1) Tryd.prog l #[.int .i64 ((x : El ws).1 : Nat)] W fun e W' =>
      (e = .returned (.bool true) ∧ J (pre ++ [x]) W' ∧ Keeps K W W') ∨ (e = .returned (.bool false) ∧ Jx (pre ++ [x]) W'))
    (W : World) (hBs : W.cell? ⟨Bs, 0, none⟩ = some (.slice A ws.length c)) (hr : ∀ j, j < ws.length → ∃ b off, A = some ⟨b, off, none⟩ ∧ K b ∧ W.cell? ⟨b, off + j, none⟩ = some (.int .u64 (wd ws j))) 
    (hT : TabOk W) (hTn : K 0) (h0 : J [] W) :
    CallsIn Fence.wide n Tryd.prog 77 #[.func (.yield l) #[] #[], .pointer (some ⟨Bs, 0, none⟩)] W fun e W' => (∃ v, e = .returned v) ∧
      ((∃ ys, ys = upto ws (64 * ws.length) ∧ J ys W') ∨ (∃ pre, (∃ k, k ≤ 64 * ws.length ∧ pre = upto ws k) ∧ Jx pre W')) := by
  refine callsIn_of_wp Tryd.func77 rfl trivial ?_ rfl
  simp only [Tryd.ntmps77, List.size_toArray, List.length_cons, List.length_nil, Nat.reduceAdd, Nat.reduceSub, Array.replicate_succ, Array.replicate_zero, List.push_toArray, List.append_toArray, List.nil_append, List.cons_append]
  gi_wp2
  gi_loopw [7] (fun i wr => ∃ k : Nat, k ≤ ws.length ∧ i = .int .i64 k ∧ J (upto ws (64 * k)) wr ∧ Keeps K W wr) (fun i _ => ws.length - (intOf i).toNat)
  case atStart => exact ⟨0, Nat.zero_le _, rfl, h0, Keeps.refl _ _⟩
  case round =>
    obtain ⟨k, hk, rfl, hJs, hnx⟩ := hrel
    by_cases hlt2 : k < ws.length
    · obtain ⟨b, off, rfl, hb, hc⟩ := hr k hlt2
      have hcx := (hnx.cell hb).trans hc
      obtain ⟨X, hX⟩ : ∃ X, X = wd ws k := ⟨_, rfl⟩
      rw [← hX] at hcx
      have hX64 : X < 18446744073709551616 := by rw [hX]; exact hlt _
      have HX := Lib.hid hX
      clear hX hc
      obtain ⟨wo, rfl⟩ : ∃ wo : World, wo = wr := ⟨_, rfl⟩
      gi_wp2
      gi_loopw [4] (fun v wi => ∃ (t V : Nat), v = .int .u64 V ∧ V < 18446744073709551616 ∧ 64 * k ≤ t ∧ t ≤ 64 * k + 64 ∧ (∀ i, i < 64 → V.testBit i = (X.testBit i && decide (t ≤ 64 * k + i))) ∧ J (upto ws t) wi ∧ Keeps K W wi) (fun v _ => (intOf v).toNat)
      case atStart => exact ⟨64 * k, X, rfl, hX64, Nat.le_refl _, by omega, fun i _ => by simp, hJs, hnx⟩
      case round =>
        obtain ⟨t, V, rfl, hV64, ht1, ht2, hbits, hJt, hnt⟩ := hrel
        have HBITS := Lib.hid hbits
        clear hbits
        by_cases hV0 : V = 0
        · subst hV0
          have hup : upto ws (64 * (k + 1)) = upto ws t := upto_to (by omega) fun e h1 h2 => by
            have h3 := HBITS.out (e - 64 * k) (by omega)
            rw [Nat.zero_testBit] at h3
            have h4 : t ≤ 64 * k + (e - 64 * k) := by omega
            simp only [h4, decide_true, Bool.and_true] at h3
            unfold mem
            rw [show e / 64 = k from by omega, show e % 64 = e - 64 * k from by omega, ← HX.out, ← h3]
          gi_wp2
          go_roundw
          case rel => exact ⟨k + 1, by omega, by go_num, by rw [hup]; exact hJt, hnt⟩
          case measure => simp [intOf]; omega
        · obtain ⟨hp64, hpt, hpl, hpn⟩ := ctz_spec V hV0 hV64
          have HTZ := Lib.hid (fun w hw => tz_any V hV64 hV0 w hw)
          obtain ⟨p, hp⟩ : ∃ p, p = Lib.ctz 64 V := ⟨_, rfl⟩
          rw [← hp] at hp64 hpt hpl hpn HTZ
          obtain ⟨e, he⟩ : ∃ e, e = 64 * k + p := ⟨_, rfl⟩
          have hmem : mem ws e = true := by
            have h3 := HBITS.out p hp64
            rw [hpt] at h3
            unfold mem
            rw [show e / 64 = k from by omega, show e % 64 = p from by omega, ← HX.out]
            cases hh : X.testBit p with
            | true => rfl
            | false => rw [hh] at h3; simp at h3
          have hte : t ≤ e := by
            have h3 := HBITS.out p hp64
            rw [hpt] at h3
            by_cases hh : t ≤ 64 * k + p
            · omega
            · simp [hh] at h3
          have hup : upto ws (e + 1) = upto ws t ++ [⟨e, hmem⟩] := upto_next hte (fun j h1 h2 => by
            have h3 := HBITS.out (j - 64 * k) (by omega)
            rw [hpl _ (by omega)] at h3
            have h4 : t ≤ 64 * k + (j - 64 * k) := by omega
            simp only [h4, decide_true, Bool.and_true] at h3
            unfold mem
            rw [show j / 64 = k from by omega, show j % 64 = j - 64 * k from by omega, ← HX.out, ← h3]) hmem
          obtain ⟨fn, tmps, assign, body, hy, hR⟩ := hY (upto ws t) ⟨e, hmem⟩ wr hJt (by have := upto_le ws t; omega)
          dsimp only at hy
          have htab : TabOk wr := hT.keeps hnt hTn
          have hsum : (k : Int) * 64 + (p : Int) = (e : Int) := by omega
          have hv1 : ((V : Int) != 0) = true := by rw [bne_iff_ne]; omega
          have hand : bits .and .u64 (V : Int) ((V : Int) - 1) = ((V &&& (V - 1) : Nat) : Int) := by
            rw [show (V : Int) - 1 = ((V - 1 : Nat) : Int) from by omega]
            exact u64_and_nat _ _ hV64 (by omega)
          have HBB : Hid (∀ i, i < 64 → (V &&& (V - 1)).testBit i = (X.testBit i && decide (e + 1 ≤ 64 * k + i))) := by
            intro i hi
            rw [hpn i, HBITS.out i hi]
            by_cases h1 : i = p
            · subst h1
              have : ¬ e + 1 ≤ 64 * k + i := by omega
              simp [this]
            · by_cases h2 : i < p
              · have h3 := hpl i h2
                rw [HBITS.out i hi] at h3
                have : ¬ e + 1 ≤ 64 * k + i := by omega
                simp [this, h1]
                intro h4
                rw [h4] at h3
                simpa using h3
              · have h4 : t ≤ 64 * k + i := by omega
                have h5 : e + 1 ≤ 64 * k + i := by omega
                simp [h1, h4, h5]
          have HLT : Hid ((V &&& (V - 1)) < V) := Nat.lt_of_le_of_lt Nat.and_le_right (by omega)
          have HUP := Lib.hid hup
          have HP := Lib.hid hp
          have HE := Lib.hid he
          clear hup hpl hpn hpt hp he
          gi_wp2_with (refine ⟨trivial, (fun h => by cases h), ?_⟩; gi_at_call 75; refine (callsIn_wide.2 (HTZ.out _ htab)).mono ?_; rintro e' w' ⟨rfl, rfl⟩)
          refine ⟨(fun h => by cases h), hR.mono ?_⟩
          rintro x W3 (⟨rfl, hJ3, hk3⟩ | ⟨rfl, hJx3⟩)
          · gi_wp2
            go_roundw
            case rel => exact ⟨e + 1, V &&& (V - 1), by rw [← hand], Nat.lt_of_le_of_lt Nat.and_le_left hV64, by omega, by have := HE.out; omega, HBB.out, by rw [HUP.out]; exact hJ3, hnt.trans hk3⟩
            case measure => have := HLT.out; simp [intOf]; omega
          · gi_wp2
            refine bodyPost_ret (results_none rfl _ _ _) rfl ?_
            exact ⟨⟨_, rfl⟩, .inr ⟨_, ⟨e + 1, by have := HE.out; omega, HUP.out.symm⟩, hJx3⟩⟩
    · obtain rfl : k = ws.length := by omega
      gi_wp2
      go_end0
      exact ⟨⟨_, rfl⟩, .inl ⟨_, rfl, hJs⟩⟩
theorem all_stops (n : Nat) (Bs c : Nat) (K : Nat → Prop) (A : Option Addr) (ws : List Nat) (hl : ws.length ≤ 64) (hlt : ∀ j, wd ws j < 18446744073709551616) (w : World) (hB : Bs < w.heap.size)
    (hBs : w.cell? ⟨Bs, 0, none⟩ = some (.slice A ws.length c)) (hr : Rd w A ws) (hA : ∀ a, A = some a → K a.block) (hT : TabOk w) (hTn : K 0) :
    SeqStopsK Fence.wide n Tryd.prog 77 #[.pointer (some ⟨Bs, 0, none⟩)] (fun x : El ws => #[Value.int .i64 (x.1 : Nat)]) (Keeps K) (fun ys => ys = upto ws (64 * ws.length)) (fun pre => ∃ k, k ≤ 64 * ws.length ∧ pre = upto ws k) (64 * ws.length + 1) w := fun l J Jx W hW _ _ hY h0 => by
  refine all1_in n l Bs c K A ws hl hlt J Jx hY W ((hW.cell (p := ⟨Bs, 0, none⟩) hB).trans hBs) (fun j hj => ?_) (hT.below hW) hTn h0
  obtain ⟨b, off, hb, hlt2, hc⟩ := hr j hj
  exact ⟨b, off, hb, hA _ hb, (hW.cell (p := ⟨b, off + j, none⟩) hlt2).trans hc⟩
/-- a set's words in new memory; none, if it may not be -/
noncomputable def mine (sz : Int) (ws : List Nat) : List Nat := if mayB sz ws = true then ws else []
set_option maxHeartbeats 4000000 in
theorem own_any (sz : Int) (A : Option Addr) (c : Nat) (ws : List Nat) (w : World) (hr : Rd w A ws) (hlt : ∀ j, wd ws j < 18446744073709551616) (hA : A = none → ws.length = 0 ∧ c = 0) (hl : ws.length ≤ 9223372036854775807) :
    Calls Tryd.prog 76 #[.agg #[.int .i64 sz, .slice A ws.length c]] w fun x w' => ∃ A' c', x = .returned (.slice A' (mine sz ws).length c') ∧ Rd w' A' (mine sz ws) ∧ (∀ a, A' = some a → w.heap.size ≤ a.block ∧ a.block < w'.heap.size ∧ a.off = 0 ∧ a.spot = none ∧ WB w' a.block (mine sz ws)) ∧ (A' = none → (mine sz ws).length = 0 ∧ c' = 0) ∧ Below w.heap.size w w' := by
  have HMAY := Lib.hid (fun W hW => may_any sz A c ws W hW hlt hl)
  have hbl0 := bl_a (Below.refl w.heap.size w) (.cells #[.int .i64 sz, .slice A ws.length c] 24)
  have hbx0 : (w.alloc (.cells #[.int .i64 sz, .slice A ws.length c] 24)).heap[w.heap.size]? = some (.cells #[.int .i64 sz, .slice A ws.length c] 24 (0, 0)) := ha_new _ _ _ rfl
  cases hm : mayB sz ws with
  | false =>
    have HMI : Hid (mine sz ws = []) := by unfold Hid mine; rw [hm]; rfl
    have HM := Lib.hid hm
    clear hm
    go_enter Tryd.func76, Tryd.ntmps76
    go_wp2_with fail
    refine (HMAY.out _ (hr.below hbl0)).mono ?_
    rw [HM.out]
    rintro x w1 ⟨rfl, hb1⟩
    go_wp2
    go_ret
    rw [HMI.out]
    exact ⟨none, 0, rfl, RdK.nil _ _ _, (fun a h => by cases h), fun _ => ⟨rfl, rfl⟩, bl_t hbl0 hb1⟩
  | true =>
    have HMI : Hid (mine sz ws = ws) := by unfold Hid mine; rw [hm]; rfl
    have hmp : MayP sz ws := by
      have := hm
      unfold mayB at this
      simpa using this
    have hl2 : ws.length ≤ 64 := by have := hmp.2.2.1; have := hmp.2.1; rw [nw_eq] at *; omega
    have HM := Lib.hid hm
    clear hm hmp
    go_enter Tryd.func76, Tryd.ntmps76
    go_wp2_with fail
    refine (HMAY.out _ (hr.below hbl0)).mono ?_
    rw [HM.out]
    rintro x w1 ⟨rfl, hb1⟩
    have hbx1 := (hb1.block _ (blk_lt hbx0)).trans hbx0
    obtain ⟨p0, p1, f0, f1, hg⟩ := blk2 hbx1
    have hbl1 := bl_t hbl0 hb1
    go_wp2_with (at_builtin; refine appC (w0 := w) w.heap.size rfl _ _ _ 85 (.int .u64 0) 1 8 rfl Tryd.underlying22 info_u64 rfl (by decide) (by decide) (.slice none 0 0) 0 [] rfl A ws.length c (enc64 ws) rfl (by simp [enc64]) (rd_news (hr.below hbl1)) (oneCell_enc ws) hA (World.ownsRow_nil _ _ _ _) hbl1 (Nat.le_refl _) hbl1.size (by omega) ?_; intro v1 w2 ho1 hb2 hg1 hn1)
    rw [List.nil_append] at ho1
    rw [Nat.zero_add] at ho1
    obtain ⟨A2, c2, rfl, hc2⟩ := own_slice ho1
    go_ret
    rw [HMI.out]
    rcases ho1.2 with ⟨h1, h2⟩ | ⟨g, cap, cur, h1, h2, h3, _⟩
    · injection h1 with h1 _ h4
      subst h1 h4
      have : ws = [] := List.eq_nil_of_length_eq_zero h2
      subst this
      exact ⟨none, 0, rfl, RdK.nil _ _ _, (fun a h => by cases h), fun _ => ⟨rfl, rfl⟩, hb2⟩
    · injection h1 with h1 _ h4
      subst h1 h4
      obtain ⟨hwb, hgb, _, _⟩ := own_wb ho1 rfl
      exact ⟨_, _, rfl, hwb.rd, (fun a h => by injection h with h; subst h; exact ⟨h2, blk_lt h3, rfl, rfl, hwb⟩), (fun h => by cases h), hb2⟩
end Go.Proofs.YtlmjfcieiengcaaDoor
