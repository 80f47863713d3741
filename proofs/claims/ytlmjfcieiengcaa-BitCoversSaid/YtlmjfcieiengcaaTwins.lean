/- twins and keptAll of the statements: a list of sets in new memory, one more behind it. -/
import Derived.Test.YtlmjfcieiengcaaSetRow
import Derived.Test.YtlmjfcieiengcaaTwin
import Derived.Deep.RegionHeld3
import Derived.Deep.RegionWith
import Derived.BigRegion
namespace Go.Proofs.Ytlmjfcieiengcaa
open Go.RowKit
def svCells (s : SV) : List Value := [.int .i64 s.sz, .slice s.A s.ws.length s.c]
def encS (l : List SV) : List Value := l.flatMap svCells
theorem encS_length (l : List SV) : (encS l).length = l.length * 2 := by
  induction l with
  | nil => rfl
  | cons s l ih =>
    show (svCells s ++ encS l).length = _
    rw [List.length_append, ih]
    simp [svCells]
    omega
theorem encS_snoc (l : List SV) (s : SV) : encS (l ++ [s]) = encS l ++ svCells s := by simp [encS]
theorem oneCell_sv (s : SV) : ∀ u ∈ svCells s, u.oneCell' = true := by
  intro u hu
  simp only [svCells, List.mem_cons, List.not_mem_nil, or_false] at hu
  rcases hu with rfl | rfl <;> rfl
theorem sd_cons (s : SV) (l : List SV) (j : Nat) : sd (s :: l) (j + 1) = sd l j := by simp [sd]
theorem encS_get (l : List SV) : ∀ j, j < l.length → (encS l)[j * 2]? = some (.int .i64 (sd l j).sz) ∧ (encS l)[j * 2 + 1]? = some (.slice (sd l j).A (sd l j).ws.length (sd l j).c) := by
  induction l with
  | nil => intro j h; simp at h
  | cons s l ih =>
    intro j h
    have e : encS (s :: l) = svCells s ++ encS l := rfl
    rw [e]
    cases j with
    | zero => exact ⟨rfl, rfl⟩
    | succ j =>
      obtain ⟨h1, h2⟩ := ih j (by simpa using h)
      rw [sd_cons, List.getElem?_append_right (by simp [svCells]; omega), List.getElem?_append_right (by simp [svCells]; omega)]
      refine ⟨?_, ?_⟩
      · rw [← h1]
        congr 1
        simp [svCells]
        omega
      · rw [← h2]
        congr 1
        simp [svCells]
        omega
def SWB (w : World) (g : Nat) (l : List SV) : Prop := ∃ sp : List Value, w.heap[g]? = some (.cells (encS l ++ sp).toArray 24 (0, 0))
theorem SWB.lt {w : World} {g : Nat} {l : List SV} (h : SWB w g l) : g < w.heap.size := by obtain ⟨sp, h⟩ := h; exact blk_lt h
theorem SWB.cell {w : World} {g : Nat} {l : List SV} (h : SWB w g l) {j : Nat} (hj : j < l.length) : w.cell? ⟨g, j * 2, none⟩ = some (.int .i64 (sd l j).sz) ∧ w.cell? ⟨g, j * 2 + 1, none⟩ = some (.slice (sd l j).A (sd l j).ws.length (sd l j).c) := by
  obtain ⟨sp, h⟩ := h
  obtain ⟨e1, e2⟩ := encS_get l j hj
  have hl := encS_length l
  rw [cell_of_row w g (j * 2) _ _ _ h, cell_of_row w g (j * 2 + 1) _ _ _ h, List.getElem?_toArray, List.getElem?_toArray, List.getElem?_append_left (by omega), List.getElem?_append_left (by omega)]
  exact ⟨e1, e2⟩
theorem SWB.below {w w' : World} {g : Nat} {l : List SV} (h : SWB w g l) (hb : Below w.heap.size w w') : SWB w' g l := by
  obtain ⟨sp, h⟩ := h
  exact ⟨sp, (hb.block g (blk_lt h)).trans h⟩
theorem SWB.pre {w : World} {g : Nat} {l m : List SV} (h : SWB w g (l ++ m)) : SWB w g l := by
  obtain ⟨sp, h⟩ := h
  refine ⟨encS m ++ sp, h.trans ?_⟩
  simp [encS]
theorem own_sb {w : World} {base g n m c : Nat} {l : List SV} (h : w.ownsRow base 24 2 (.slice (some ⟨g, 0, none⟩) m c) n (encS l)) : SWB w g l ∧ base ≤ g ∧ m = n ∧ n ≤ c := by
  rcases h.2 with ⟨h1, _⟩ | ⟨g', cap, cur, h1, hb, hh, hc, _, hs, ht⟩
  · cases h1
  · injection h1 with h1 h2 h3
    injection h1 with h1
    injection h1 with h1
    subst h1 h2 h3
    refine ⟨⟨cur.toList.drop (m * 2), hh.trans ?_⟩, hb, rfl, hc⟩
    congr 2
    rw [← Array.toList_inj]
    show cur.toList = encS l ++ cur.toList.drop (m * 2)
    rw [← ht, List.take_append_drop]
theorem own_ne {w : World} {base g n : Nat} {v : Value} {xs : List Value} {ws : List Nat} (h : w.ownsRow base 24 2 v n xs) (hw : WB w g ws) : some g ≠ v.ownBlock := by
  intro e
  rcases h.2 with ⟨h1, _⟩ | ⟨g', cap, cur, h1, hb, hh, _⟩
  · subst h1
    cases e
  · subst h1
    simp [Value.ownBlock] at e
    subst e
    obtain ⟨sp, hw⟩ := hw
    rw [hw] at hh
    injection hh with hh
    injection hh with _ h2 _
    exact absurd h2 (by decide)
/-- t is s in memory of its own, a mark behind it -/
def TwW (w : World) (base : Nat) (t s : SV) : Prop := t.sz = s.sz ∧ t.ws = s.ws ∧ ∃ g, t.A = some ⟨g, 0, none⟩ ∧ base ≤ g ∧ s.ws.length + 1 ≤ t.c ∧ WB w g (s.ws ++ [mark])
theorem TwW.below {w w' : World} {base : Nat} {t s : SV} (h : TwW w base t s) (hb : Below w.heap.size w w') : TwW w' base t s := by
  obtain ⟨h1, h2, g, h3, h4, h5, h6⟩ := h
  exact ⟨h1, h2, g, h3, h4, h5, h6.below hb⟩
theorem TwW.grown {w w' : World} {base base' n : Nat} {t s : SV} {v : Value} {xs : List Value} (h : TwW w base t s) (ho : w.ownsRow base' 24 2 v n xs) (hg : w.grownBy w' v.ownBlock) : TwW w' base t s := by
  obtain ⟨h1, h2, g, h3, h4, h5, h6⟩ := h
  refine ⟨h1, h2, g, h3, h4, h5, ?_⟩
  have hne := own_ne ho h6
  obtain ⟨sp, h6⟩ := h6
  exact ⟨sp, blk_grown h6 hg hne⟩
theorem sd_snoc_lt (l : List SV) (s : SV) {j : Nat} (h : j < l.length) : sd (l ++ [s]) j = sd l j := by
  rw [sd_lt (by simp; omega), sd_lt h, List.getElem_append_left h]
theorem sd_snoc (l : List SV) (s : SV) : sd (l ++ [s]) l.length = s := by
  rw [sd_lt (by simp)]
  simp
theorem info_set : (Try.prog.info? 24).map (fun i => (i.zero, i.size, i.bytes)) = some (some (.agg #[.int .i64 0, .slice none 0 0]), 2, 32) := by kernel_rfl
set_option maxRecDepth 100000 in
set_option maxHeartbeats 4000000 in
theorem twins_any (B : Option Addr) (d : Nat) (l : List SV) (w : World) (hl : RdS w B l) (hok : ∀ s ∈ l, s.Ok) (hn : l.length ≤ 4398046511103) :
    Calls Try.prog 11 #[.slice B l.length d] w fun x w' => ∃ g c' ts, x = .returned (.slice (some ⟨g, 0, none⟩) (ts : List SV).length c') ∧ ts.length = l.length ∧ l.length + 1 ≤ c' ∧ w.heap.size ≤ g ∧ SWB w' g (ts ++ [⟨-7, none, 0, []⟩]) ∧ (∀ j, j < l.length → TwW w' w.heap.size (sd ts j) (sd l j)) ∧ Below w.heap.size w w' := by
  have HOK := Lib.hid hok
  clear hok
  go_enter Try.func11, Try.ntmps11
  go_wp2
  go_loopw [3, 4] (fun v i wr => ∃ ts : List SV, i = .int .i64 ts.length ∧ ts.length ≤ l.length ∧ wr.ownsRow w.heap.size 24 2 v ts.length (encS ts) ∧ (∀ j, j < ts.length → TwW wr w.heap.size (sd ts j) (sd l j)) ∧ Below w.heap.size w wr) (fun _ i _ => l.length - (intOf i).toNat)
  case atStart => exact ⟨[], rfl, Nat.zero_le _, World.ownsRow_nil _ _ _ _, fun j hj => by simp at hj, Below.refl _ _⟩
  case round =>
    obtain ⟨ts, rfl, htl, hown, htw, hb⟩ := hrel
    have HTW := Lib.hid htw
    clear htw
    by_cases hlt2 : ts.length < l.length
    · have hlb := hl.below hb
      obtain ⟨b, off, rfl, hblt, h1, h2, h3⟩ := hlb ts.length hlt2
      have hsok := HOK.out _ (sd_mem hlt2)
      obtain ⟨s, hs⟩ : ∃ s, s = sd l ts.length := ⟨_, rfl⟩
      rw [← hs] at h1 h2 h3 hsok
      have HTWIN := Lib.hid (fun W hW => twin_any s.sz s.A s.c s.ws W hW hsok.nil hsok.len)
      have HS := Lib.hid hs
      clear hs hsok
      go_wp2_with fail
      refine (HTWIN.out _ h3).mono ?_
      rintro x w1 ⟨g, c', rfl, hg0, hc', hwb, hb1⟩
      have hown1 := own_below hown hb1
      have hbw1 := bl_t hb hb1
      have hsz1 := hbw1.size
      have hts : TwW w1 w.heap.size ⟨s.sz, some ⟨g, 0, none⟩, c', s.ws⟩ s := ⟨rfl, rfl, g, rfl, by have := hb.size; omega, hc', hwb⟩
      have HTS := Lib.hid hts
      clear hts h1 h2 h3
      go_wp2_with (at_builtin; refine app1 (w0 := w) w.heap.size rfl _ _ _ 24 (.agg #[.int .i64 0, .slice none 0 0]) 2 32 rfl Try.underlying33 info_set rfl (by decide) (by decide) u3 ts.length (encS ts) (svCells ⟨s.sz, some ⟨g, 0, none⟩, c', s.ws⟩) rfl _ rfl (by simp) rfl (oneCell_sv _) hown1 hbw1 (Nat.le_refl _) hsz1 (by omega) ?_; intro v1 w2 ho2 hb2 hg2)
      go_roundw
      case rel =>
        refine ⟨ts ++ [⟨s.sz, some ⟨g, 0, none⟩, c', s.ws⟩], by simp, by simp; omega, by rw [encS_snoc]; simpa using ho2, fun j hj => ?_, hb2⟩
        by_cases h : j < ts.length
        · rw [sd_snoc_lt _ _ h]
          exact ((HTW.out j h).below hb1).grown hown1 hg2
        · obtain rfl : j = ts.length := by simp at hj; omega
          rw [sd_snoc, ← HS.out]
          exact HTS.out.grown hown1 hg2
      case measure => simp [intOf]; omega
    · have hle : ts.length = l.length := by omega
      have HLE := Lib.hid hle
      clear hle
      have hsz1 := hb.size
      go_wp2_with (at_builtin; refine app1 (w0 := w) w.heap.size rfl _ _ _ 24 (.agg #[.int .i64 0, .slice none 0 0]) 2 32 rfl Try.underlying33 info_set rfl (by decide) (by decide) u3 ts.length (encS ts) (svCells ⟨-7, none, 0, []⟩) rfl _ rfl (by simp) rfl (oneCell_sv _) hown hb (Nat.le_refl _) hsz1 (by omega) ?_; intro v1 w2 ho2 hb2 hg2; obtain ⟨A2, c2, rfl, hc2⟩ := own_slice ho2; obtain ⟨g, rfl, hg0, hg1', _, _, _⟩ := own_at ho2 (by omega); obtain ⟨i0, hi0, hz0, hz1, hz2⟩ := info_parts' info_set; have hcut : ∀ W : World, (Instr.slice 33 (.slice (some ⟨g, 0, none⟩) (ts.length + 1) c2) none (some (.int .i64 l.length)) none).run Try.prog W = .ok (.slice (some ⟨g, 0, none⟩) l.length c2) W := cut_h _ _ Try.underlying33 hi0 _ _ _ _ (by omega))
      rw [← encS_snoc] at ho2
      obtain ⟨hsb, hgb, _, _⟩ := own_sb ho2
      go_ret
      exact ⟨g, c2, ts, by rw [HLE.out]; rfl, HLE.out, by have := HLE.out; omega, hgb, hsb, fun j hj => (HTW.out j (by have := HLE.out; omega)).grown hown hg2, hb2⟩
set_option maxRecDepth 100000 in
set_option maxHeartbeats 4000000 in
theorem keptall_any (base g c' : Nat) (ts : List SV) (B : Option Addr) (d : Nat) (l : List SV) (w : World) (hsb : SWB w g (ts ++ [⟨-7, none, 0, []⟩])) (htl : ts.length = l.length) (hc' : l.length + 1 ≤ c') (htw : ∀ j, j < l.length → TwW w base (sd ts j) (sd l j))
    (hl : RdS w B l) (hok : ∀ s ∈ l, s.Ok) (hn : l.length ≤ 4398046511103) :
    Calls Try.prog 16 #[.slice (some ⟨g, 0, none⟩) ts.length c', .slice B l.length d] w fun x w' => x = .returned (.bool true) ∧ Below w.heap.size w w' := by
  have HOK := Lib.hid hok
  have HTW := Lib.hid htw
  have HSB := Lib.hid hsb
  have hgl := hsb.lt
  obtain ⟨hm1, hm2⟩ := hsb.cell (j := l.length) (by simp; omega)
  rw [← htl, sd_snoc] at hm1 hm2
  rw [htl] at hm1 hm2
  rw [htl]
  have hm : w.cell? ⟨g, l.length * 2, none⟩ = some (.int .i64 (-7)) := hm1
  obtain ⟨i0, hi0, hz0, hz1, hz2⟩ := info_parts' info_set
  have hcut : ∀ W : World, (Instr.slice 33 (.slice (some ⟨g, 0, none⟩) l.length c') none (some (.int .i64 ((l.length : Int) + 1))) (some (.int .i64 ((l.length : Int) + 1)))).run Try.prog W = .ok (.slice (some ⟨g, 0, none⟩) (l.length + 1) (l.length + 1)) W := by
    intro W
    have := cut_hm 33 24 Try.underlying33 hi0 ⟨g, 0, none⟩ l.length c' (l.length + 1) (l.length + 1) (Nat.le_refl _) hc' W
    simpa using this
  clear hok htw hsb hm1 hm2
  go_enter Try.func16, Try.ntmps16
  go_wp2
  go_loopw [5] (fun i wr => ∃ j : Nat, i = .int .i64 j ∧ j ≤ l.length ∧ Below w.heap.size w wr) (fun i _ => l.length - (intOf i).toNat)
  case atStart => exact ⟨0, rfl, Nat.zero_le _, Below.refl _ _⟩
  case round =>
    obtain ⟨j, rfl, hj, hb⟩ := hrel
    by_cases hlt2 : j < l.length
    · have hlb := hl.below hb
      obtain ⟨b, off, rfl, hblt, h1, h2, h3⟩ := hlb j hlt2
      have hsok := HOK.out _ (sd_mem hlt2)
      have htj := (HTW.out j hlt2).below hb
      obtain ⟨k1, k2⟩ := (HSB.out.below hb).cell (j := j) (by simp; omega)
      rw [sd_snoc_lt _ _ (by omega)] at k1 k2
      have hgl2 : g < wr.heap.size := Nat.lt_of_lt_of_le hgl hb.size
      obtain ⟨s, hs⟩ : ∃ s, s = sd l j := ⟨_, rfl⟩
      rw [← hs] at h1 h2 h3 hsok htj
      obtain ⟨e1, e2, g', e3, _, e5, e6⟩ := htj
      rw [e1] at k1
      rw [e2, e3] at k2
      obtain ⟨cu, hcu⟩ : ∃ cu, cu = (sd ts j).c := ⟨_, rfl⟩
      rw [← hcu] at k2 e5
      have HK := Lib.hid (fun W (hW : Below wr.heap.size wr W) => kept_any s.sz s.A s.c g' cu s.ws W (e6.below hW) e5 (h3.below hW) hsok.len)
      have hi0 : (0 : Int) ≤ (j : Int) := by omega
      have hi1 : (j : Int) < (l.length : Int) := by omega
      have hSK : ∀ W W1 : World, (W.cell? ⟨b, off + j * 2, none⟩ = some (.int .i64 s.sz) ∧ W.cell? ⟨b, off + j * 2 + 1, none⟩ = some (.slice s.A s.ws.length s.c) ∧ W.cell? ⟨g, j * 2, none⟩ = some (.int .i64 s.sz) ∧ W.cell? ⟨g, j * 2 + 1, none⟩ = some (.slice (some ⟨g', 0, none⟩) s.ws.length cu) ∧ Below wr.heap.size wr W) → Below W.heap.size W W1 → (W1.cell? ⟨b, off + j * 2, none⟩ = some (.int .i64 s.sz) ∧ W1.cell? ⟨b, off + j * 2 + 1, none⟩ = some (.slice s.A s.ws.length s.c) ∧ W1.cell? ⟨g, j * 2, none⟩ = some (.int .i64 s.sz) ∧ W1.cell? ⟨g, j * 2 + 1, none⟩ = some (.slice (some ⟨g', 0, none⟩) s.ws.length cu) ∧ Below wr.heap.size wr W1) := by
        rintro W W1 ⟨x1, x2, x3, x4, x5⟩ hb'
        have hz := x5.size
        exact ⟨(hb'.cell (p := ⟨_, off + j * 2, none⟩) (by dsimp only; omega)).trans x1, (hb'.cell (p := ⟨_, off + j * 2 + 1, none⟩) (by dsimp only; omega)).trans x2, (hb'.cell (p := ⟨_, j * 2, none⟩) (by dsimp only; omega)).trans x3, (hb'.cell (p := ⟨_, j * 2 + 1, none⟩) (by dsimp only; omega)).trans x4, bl_t x5 hb'⟩
      have SKH := Lib.hid hSK
      have HB := Lib.hid hb
      clear hs hsok e1 e2 e3 hcu hSK hlb h3 e5 e6 hb
      go_wp2
      go_region_held3 (fun W => W.cell? ⟨b, off + j * 2, none⟩ = some (.int .i64 s.sz) ∧ W.cell? ⟨b, off + j * 2 + 1, none⟩ = some (.slice s.A s.ws.length s.c) ∧ W.cell? ⟨g, j * 2, none⟩ = some (.int .i64 s.sz) ∧ W.cell? ⟨g, j * 2 + 1, none⟩ = some (.slice (some ⟨g', 0, none⟩) s.ws.length cu) ∧ Below wr.heap.size wr W)
        (first | exact ⟨h1, h2, k1, k2, bl_d (Below.refl _ _)⟩ | exact SKH.out _ _ (by assumption) (by assumption))
        (first | (go_at_call 17; refine (HK.out _ (And.right (And.right (And.right (And.right (by assumption)))))).mono ?_; rintro x w1 ⟨rfl, hb1⟩))
      rename_i hH
      obtain ⟨_, _, _, _, hbw⟩ := hH
      have HBW := Lib.hid hbw
      clear hbw h1 h2 k1 k2
      go_wp2
      go_roundw
      case rel => exact ⟨j + 1, by go_num, by omega, bl_t HB.out HBW.out⟩
      case measure => simp [intOf]; omega
    · have hje : j = l.length := by omega
      go_wp2
      go_ret
      exact ⟨rfl, hb⟩
end Go.Proofs.Ytlmjfcieiengcaa
