/- A row of truth values: read, and of the call's own; sloperef3.Of and slopelaw3.same. The list has at most 65536 members. -/
import Derived.Test.YtlmjfcieiengcaaSmall
namespace Go.Proofs.Ytlmjfcieiengcaa
open Go.RowKit
def bd (l : List Bool) (j : Nat) : Bool := l.getD j false
theorem bd_lt {l : List Bool} {j : Nat} (h : j < l.length) : bd l j = l[j] := by
  unfold bd
  rw [List.getD_eq_getElem?_getD, List.getElem?_eq_getElem h]
  rfl
theorem bd_ge {l : List Bool} {j : Nat} (h : l.length ≤ j) : bd l j = false := by
  unfold bd
  rw [List.getD_eq_getElem?_getD, List.getElem?_eq_none h]
  rfl
theorem bd_set (l : List Bool) (j : Nat) (x : Bool) (i : Nat) (h : j < l.length) : bd (l.set j x) i = if i = j then x else bd l i := by
  unfold bd
  rw [List.getD_eq_getElem?_getD, List.getD_eq_getElem?_getD, List.getElem?_set]
  by_cases hi : j = i
  · subst hi; simp [h]
  · have : ¬ i = j := fun h => hi h.symm
    simp [hi, this]
theorem bd_replicate (n j : Nat) : bd (List.replicate n false) j = false := by
  unfold bd
  rw [List.getD_eq_getElem?_getD, List.getElem?_replicate]
  split <;> rfl
def RdB (w : World) (A : Option Addr) (l : List Bool) : Prop :=
  ∀ j, j < l.length → ∃ b off, A = some ⟨b, off, none⟩ ∧ b < w.heap.size ∧ w.cell? ⟨b, off + j, none⟩ = some (.bool (bd l j))
theorem RdB.below {w w' : World} {A : Option Addr} {l : List Bool} (h : RdB w A l) (hb : Below w.heap.size w w') : RdB w' A l := by
  intro j hj
  obtain ⟨b, off, rfl, hlt, hc⟩ := h j hj
  exact ⟨b, off, rfl, Nat.lt_of_lt_of_le hlt hb.size, (hb.cell (p := ⟨b, off + j, none⟩) hlt).trans hc⟩
def encB (l : List Bool) : List Value := l.map Value.bool
def BB (w : World) (g : Nat) (l : List Bool) : Prop := ∃ sp : List Value, w.heap[g]? = some (.cells (encB l ++ sp).toArray 4 (0, 0))
theorem BB.lt {w : World} {g : Nat} {l : List Bool} (h : BB w g l) : g < w.heap.size := by obtain ⟨sp, h⟩ := h; exact blk_lt h
theorem BB.cell {w : World} {g : Nat} {l : List Bool} (h : BB w g l) {j : Nat} (hj : j < l.length) : w.cell? ⟨g, j, none⟩ = some (.bool (bd l j)) := by
  obtain ⟨sp, h⟩ := h
  rw [cell_of_row w g j _ _ _ h, List.getElem?_toArray, List.getElem?_append_left (by simpa [encB] using hj), bd_lt hj]
  simp [encB, hj]
theorem BB.frozen {w : World} {g : Nat} {l : List Bool} (h : BB w g l) (j : Nat) : w.frozen? ⟨g, j, none⟩ = false := by
  obtain ⟨sp, h⟩ := h
  simp [World.frozen?, h]
theorem BB.set {w : World} {g : Nat} {l : List Bool} (h : BB w g l) {j : Nat} (hj : j < l.length) (x : Bool) : BB (w.setCell ⟨g, j, none⟩ (.bool x)) g (l.set j x) := by
  obtain ⟨sp, h⟩ := h
  refine ⟨sp, (hs_same h j _).trans ?_⟩
  congr 2
  rw [List.setIfInBounds_toArray, List.set_append_left _ _ (by simpa [encB] using hj)]
  congr 2
  simp [encB, List.map_set]
theorem BB.other {w : World} {g : Nat} {l : List Bool} (h : BB w g l) {p : Addr} (hp : g ≠ p.block) (u : Value) : BB (w.setCell p u) g l := by
  obtain ⟨sp, h⟩ := h
  exact ⟨sp, (hs_other w p u g hp).trans h⟩
theorem BB.alloc {w : World} {g : Nat} {l : List Bool} (h : BB w g l) (o : Obj) : BB (w.alloc o) g l := by
  obtain ⟨sp, h⟩ := h
  exact ⟨sp, (ha_old w o g (blk_lt h)).trans h⟩
theorem BB.below {w w' : World} {g : Nat} {l : List Bool} (h : BB w g l) (hb : Below w.heap.size w w') : BB w' g l := by
  obtain ⟨sp, h⟩ := h
  exact ⟨sp, (hb.block g (blk_lt h)).trans h⟩
theorem BB.grown {w w' : World} {g : Nat} {l : List Bool} {row : Option Nat} (h : BB w g l) (hb : w.grownBy w' row) (hne : some g ≠ row) : BB w' g l := by
  obtain ⟨sp, h⟩ := h
  exact ⟨sp, (hb.block g (blk_lt h) hne).trans h⟩
theorem BB.rd {w : World} {g : Nat} {l : List Bool} (h : BB w g l) : RdB w (some ⟨g, 0, none⟩) l := fun j hj => ⟨g, 0, rfl, h.lt, by rw [Nat.zero_add]; exact h.cell hj⟩
theorem BB.made (w : World) (n : Nat) : BB (w.alloc (.cells (madeCells #[.bool false] n) 4)) w.heap.size (List.replicate n false) := by
  refine ⟨[], (ha_new _ _ _ rfl).trans ?_⟩
  congr 2
  rw [List.append_nil]
  have := toList_madeCells_one (.bool false) n
  rw [← Array.toList_inj, this]
  simp [encB]
theorem info_bool : (Try.prog.info? 4).map (fun i => (i.zero, i.size, i.bytes)) = some (some (.bool false), 1, 1) := by kernel_rfl
/-- make([]bool, n) -/
theorem mk_bools (n : Nat) (hn : n ≤ 65536) (W : World) : (Instr.makeSlice 73 (.int .i64 n) (.int .i64 n)).run Try.prog W = .ok (.slice (some ⟨W.heap.size, 0, none⟩) n n) (W.alloc (.cells (madeCells #[.bool false] n) 4)) := by
  obtain ⟨i0, hi, hz0, hz1, hz2⟩ := info_parts' info_bool
  have h := run_make (P := Try.prog) W 73 4 i0 (.bool false) Try.underlying73 hi hz0 .i64 .i64 (n : Int) (n : Int) (by omega) (by omega) (by rw [hz2]; omega) (by omega)
  rw [hz1] at h
  simpa [Value.cells] using h
/-- make([]uint64, n) -/
theorem mk_words (n : Nat) (hn : n ≤ 65536) (W : World) : (Instr.makeSlice 22 (.int .i64 n) (.int .i64 n)).run Try.prog W = .ok (.slice (some ⟨W.heap.size, 0, none⟩) n n) (W.alloc (.cells (madeCells #[.int .u64 0] n) 75)) := by
  obtain ⟨i0, hi, hz0, hz1, hz2⟩ := info_parts' info_u64
  have h := run_make (P := Try.prog) W 22 75 i0 (.int .u64 0) Try.underlying22 hi hz0 .i64 .i64 (n : Int) (n : Int) (by omega) (by omega) (by rw [hz2]; omega) (by omega)
  rw [hz1] at h
  simpa [Value.cells] using h

structure ORel (w wr : World) (l : List Bool) (g i : Nat) (ws : List Nat) : Prop where
  hi : i ≤ l.length
  set : Ws ws l.length (fun e => decide (e < i) && bd l e)
  row : WB wr g ws
  hg : g = w.heap.size + 1
  b0 : wr.heap[w.heap.size]? = some (.cells #[.int .i64 0, .slice none 0 0] 24 (0, 0))
  b1 : wr.heap[w.heap.size + 2]? = some (.cells #[.int .i64 l.length, .slice (some ⟨g, 0, none⟩) (nw l.length) (nw l.length)] 24 (0, 0))
  bl : Below w.heap.size w wr
set_option maxHeartbeats 4000000 in
theorem of_any (A : Option Addr) (c : Nat) (l : List Bool) (w : World) (hr : RdB w A l) (hl : l.length ≤ 65536) :
    Calls Try.prog 40 #[.slice A l.length c] w fun x w' => ∃ g ws, x = .returned (.agg #[.int .i64 l.length, .slice (some ⟨g, 0, none⟩) ws.length ws.length]) ∧ w.heap.size ≤ g ∧ WB w' g ws ∧ Ws ws l.length (bd l) ∧ Below w.heap.size w w' := by
  have hn : (((l.length : Int) + 63) / 64) = ((nw l.length : Nat) : Int) := by rw [nw_eq]; omega
  have hmk := mk_words (nw l.length) (by rw [nw_eq]; omega)
  go_enter Try.func40, Try.ntmps40
  go_wp2
  clear hn hmk
  go_loopw [4] (fun v wr => ∃ i ws, v = .int .i64 (i : Nat) ∧ ORel w wr l (w.heap.size + 1) i ws) (fun v _ => l.length - (intOf v).toNat)
  case atStart =>
    refine ⟨0, List.replicate (nw l.length) 0, rfl, by omega, (Ws.empty _).congr (fun e _ => by simp), ?_, rfl, ?_, ?_, bl_a (bl_a (bl_a (Below.refl _ _) _) _) _⟩
    · have := WB.made (w.alloc (.cells #[.int .i64 0, .slice none 0 0] 24)) (nw l.length)
      exact (by simpa using this : WB _ (w.heap.size + 1) _).alloc _
    · rw [ha_old _ _ _ (by simp; omega), ha_old _ _ _ (by simp), ha_new _ _ _ rfl]
    · rw [ha_new _ _ _ (by simp)]
  case round =>
    obtain ⟨i, ws, rfl, hO⟩ := hrel
    have hi := hO.hi
    obtain ⟨p0, p1, f0, f1, hg1⟩ := blk2 hO.b1
    obtain ⟨q0, q1, r0, r1, hg0⟩ := blk2 hO.b0
    by_cases hlt : i < l.length
    · obtain ⟨b, off, rfl, hblt, hcell⟩ := hr i hlt
      have hcr := (hO.bl.cell (p := ⟨b, off + i, none⟩) hblt).trans hcell
      have hbw : b < wr.heap.size := Nat.lt_of_lt_of_le hblt hO.bl.size
      have hwl : i / 64 < ws.length := by rw [hO.set.len, nw_eq]; omega
      have hcw := hO.row.cell hwl
      have hfw := hO.row.frozen (i / 64)
      have hgl := hO.row.lt
      have hnw : i / 64 < nw l.length := by rw [nw_eq]; omega
      obtain ⟨X, hX⟩ : ∃ X, X = wd ws (i / 64) := ⟨_, rfl⟩
      have hX64 : X < 18446744073709551616 := by rw [hX]; exact hO.set.lt _
      rw [← hX] at hcw
      have HX := Lib.hid hX
      clear hX hcell
      cases hbd : bd l i with
      | true =>
        rw [hbd] at hcr
        have HBD := Lib.hid hbd
        clear hbd
        go_wp2
        go_region
        go_wp2
        rw [or_pow X i hX64, HX.out]
        go_roundw
        case rel => exact ⟨i + 1, setb ws i, by go_num, by omega, (hO.set.put hlt).congr (fun e he => by
          by_cases h1 : e < i
          · have h2 : e < i + 1 := by omega
            simp [h1, h2]; omega
          · by_cases h2 : e = i
            · subst h2; simp [HBD.out]
            · have : ¬ e < i + 1 := by omega
              simp [h1, h2, this]), hO.row.set hwl _, rfl, (hs_other _ _ _ _ (by simp)).trans hO.b0, (hs_other _ _ _ _ (by simp)).trans hO.b1, bl_d (bl_s hO.bl (by simp) _)⟩
        case measure => simp [intOf]; omega
      | false =>
        rw [hbd] at hcr
        have HBD := Lib.hid hbd
        clear hbd
        go_wp2
        go_roundw
        case rel => exact ⟨i + 1, ws, by go_num, by omega, hO.set.congr (fun e he => by
          by_cases h1 : e < i
          · simp [h1]; omega
          · by_cases h2 : e = i
            · subst h2; simp [HBD.out]
            · have : ¬ e < i + 1 := by omega
              simp [h1, this]), hO.row, rfl, hO.b0, hO.b1, hO.bl⟩
        case measure => simp [intOf]; omega
    · have hle : l.length ≤ i := by omega
      go_wp2
      refine bodyPost_ret (res_c rfl _ _ (w.heap.size) 24 #[.int .i64 l.length, .slice (some ⟨w.heap.size + 1, 0, none⟩) (nw l.length) (nw l.length)] (0, 0) _ rfl (hs_same (hs_same hO.b0 0 _) 1 _) Try.underlying24 rfl (by kernel_rfl)) rfl ?_
      exact ⟨w.heap.size + 1, ws, by rw [hO.set.len], by omega, (hO.row.other (by simp) _).other (by simp) _, hO.set.congr (fun e he => by
        have : e < i := by omega
        simp [this]), bl_s (bl_s hO.bl (Nat.le_refl _) _) (Nat.le_refl _) _⟩
structure SRel (w wr : World) (sa sb : Int) (A B : Option Addr) (ca cb : Nat) (a b : List Nat) (i : Nat) : Prop where
  hi : i ≤ a.length
  eq : ∀ j, j < i → wd a j = wd b j
  b0 : wr.heap[w.heap.size]? = some (.cells #[.int .i64 sa, .slice A a.length ca] 24 (0, 0))
  b1 : wr.heap[w.heap.size + 1]? = some (.cells #[.int .i64 sb, .slice B b.length cb] 24 (0, 0))
  bl : Below w.heap.size w wr
/-- are two sets one, word by word? -/
def sameB (sa sb : Int) (a b : List Nat) : Bool := decide (sa = sb ∧ a = b)
set_option maxHeartbeats 4000000 in
theorem same_any (sa sb : Int) (A B : Option Addr) (ca cb : Nat) (a b : List Nat) (w : World) (ha : Rd w A a) (hb : Rd w B b) (hla : a.length ≤ 140737488355328) :
    Calls Try.prog 9 #[.agg #[.int .i64 sa, .slice A a.length ca], .agg #[.int .i64 sb, .slice B b.length cb]] w fun x w' => x = .returned (.bool (sameB sa sb a b)) ∧ Below w.heap.size w w' := by
  have hblx := bl_a (bl_a (Below.refl w.heap.size w) (.cells #[.int .i64 sa, .slice A a.length ca] 24)) (.cells #[.int .i64 sb, .slice B b.length cb] 24)
  by_cases hs : sa = sb
  · subst hs
    by_cases hl : a.length = b.length
    · have HL := Lib.hid hl
      have hl1 : a.length ≤ b.length := by omega
      have hl2 : b.length ≤ a.length := by omega
      clear hl
      go_enter Try.func9, Try.ntmps9
      go_wp2
      go_loopw [5] (fun v wr => ∃ i, v = .int .i64 (i : Nat) ∧ SRel w wr sa sa A B ca cb a b i) (fun v _ => a.length - (intOf v).toNat)
      case atStart =>
        refine ⟨0, rfl, by omega, fun j h => by omega, ?_, ?_, hblx⟩
        · rw [ha_old _ _ _ (by simp), ha_new _ _ _ rfl]
        · rw [ha_new _ _ _ (by simp)]
      case round =>
        obtain ⟨i, rfl, hS⟩ := hrel
        clear hblx
        have hi := hS.hi
        obtain ⟨p0, p1, f0, f1, hg1⟩ := blk2 hS.b1
        obtain ⟨q0, q1, r0, r1, hg0⟩ := blk2 hS.b0
        by_cases hlt : i < a.length
        · obtain ⟨ba, oa, rfl, hblt, hcell⟩ := ha i hlt
          have hca := (hS.bl.cell (p := ⟨ba, oa + i, none⟩) hblt).trans hcell
          obtain ⟨bb, ob, rfl, hblt2, hcell2⟩ := hb i (by omega)
          have hcb := (hS.bl.cell (p := ⟨bb, ob + i, none⟩) hblt2).trans hcell2
          clear hcell hcell2
          by_cases hw : wd a i = wd b i
          · obtain ⟨X, hX⟩ : ∃ X, X = wd a i := ⟨_, rfl⟩
            rw [← hw, ← hX] at hcb
            rw [← hX] at hca
            have HX := Lib.hid hX
            have HW := Lib.hid hw
            clear hX hw
            go_wp2
            go_quiet (fail)
            go_wp2
            go_roundw
            case rel => exact ⟨i + 1, by go_num, by omega, fun j hj => by
              by_cases h : j = i
              · rw [h]; exact HW.out
              · exact hS.eq j (by omega), hS.b0, hS.b1, bl_dn hS.bl _⟩
            case measure => simp [intOf]; omega
          · have hne : sameB sa sa a b = false := by
              unfold sameB
              rw [decide_eq_false_iff_not]
              rintro ⟨_, h⟩
              exact hw (by rw [h])
            obtain ⟨X, hX⟩ : ∃ X, X = wd a i := ⟨_, rfl⟩
            obtain ⟨Y, hY⟩ : ∃ Y, Y = wd b i := ⟨_, rfl⟩
            rw [← hY] at hcb
            rw [← hX] at hca
            have hxy : ((X : Int) != Y) = true := by rw [bne_iff_ne]; omega
            have HNE := Lib.hid hne
            clear hX hY hw hne
            go_wp2
            go_quiet (fail)
            go_wp2
            go_ret
            exact ⟨by rw [HNE.out]; rfl, bl_dn hS.bl _⟩
        · have hle : a.length ≤ i := by omega
          have heq : sameB sa sa a b = true := by
            unfold sameB
            rw [decide_eq_true_iff]
            refine ⟨rfl, words_ext HL.out fun j => ?_⟩
            by_cases hj : j < i
            · exact hS.eq j hj
            · rw [wd_ge (by omega), wd_ge (by omega)]
          have HEQ := Lib.hid heq
          clear heq
          go_wp2
          go_ret
          exact ⟨by rw [HEQ.out]; rfl, hS.bl⟩
    · have hne : sameB sa sa a b = false := by
        unfold sameB
        rw [decide_eq_false_iff_not]
        rintro ⟨_, h⟩
        exact hl (by rw [h])
      have HNE := Lib.hid hne
      have hl' : ((a.length : Int) != b.length) = true := by rw [bne_iff_ne]; omega
      clear hne hl
      go_enter Try.func9, Try.ntmps9
      go_wp2
      go_ret
      exact ⟨by rw [HNE.out]; rfl, hblx⟩
  · have hne : sameB sa sb a b = false := by
      unfold sameB
      rw [decide_eq_false_iff_not]
      exact fun h => hs h.1
    have HNE := Lib.hid hne
    have hs' : (sa != sb) = true := by rw [bne_iff_ne]; exact hs
    clear hne hs
    go_enter Try.func9, Try.ntmps9
    go_wp2
    go_ret
    exact ⟨by rw [HNE.out]; rfl, hblx⟩
end Go.Proofs.Ytlmjfcieiengcaa
