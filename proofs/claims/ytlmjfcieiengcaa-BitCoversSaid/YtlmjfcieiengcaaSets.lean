/- Sets as words, plain: which numbers are in words; words are told by their length and what is in them. No condition. -/
import Derived.Test.YtlmjfcieiengcaaBase
namespace Go.Proofs.Ytlmjfcieiengcaa
open Go.RowKit
/-- how many words a universe takes -/
def nw (n : Nat) : Nat := (n + 63) / 64
theorem nw_eq (n : Nat) : nw n = (n + 63) / 64 := rfl
theorem nw_le {n m : Nat} (h : n ≤ m) : nw n ≤ nw m := by simp only [nw_eq]; omega
def mem (ws : List Nat) (e : Nat) : Bool := (wd ws (e / 64)).testBit (e % 64)
/-- ws are the words of the set of those e below n of which f says so -/
structure Ws (ws : List Nat) (n : Nat) (f : Nat → Bool) : Prop where
  len : ws.length = nw n
  lt : ∀ j, wd ws j < 18446744073709551616
  has : ∀ e, mem ws e = (decide (e < n) && f e)
theorem wd_ge {ws : List Nat} {j : Nat} (h : ws.length ≤ j) : wd ws j = 0 := by
  unfold wd
  rw [List.getD_eq_getElem?_getD, List.getElem?_eq_none h]
  rfl
theorem wd_lt {ws : List Nat} {j : Nat} (h : j < ws.length) : wd ws j = ws[j] := by
  unfold wd
  rw [List.getD_eq_getElem?_getD, List.getElem?_eq_getElem h]
  rfl
theorem words_ext {a b : List Nat} (hl : a.length = b.length) (h : ∀ j, wd a j = wd b j) : a = b := by
  refine List.ext_getElem hl fun j h1 h2 => ?_
  have := h j
  rwa [wd_lt h1, wd_lt h2] at this
theorem nat_ext {x y : Nat} (hx : x < 18446744073709551616) (hy : y < 18446744073709551616) (h : ∀ i, i < 64 → x.testBit i = y.testBit i) : x = y := by
  refine Nat.eq_of_testBit_eq fun i => ?_
  by_cases hi : i < 64
  · exact h i hi
  · have h2 : (18446744073709551616 : Nat) ≤ 2 ^ i := by
      have : (18446744073709551616 : Nat) = 2 ^ 64 := by decide
      rw [this]
      exact Nat.pow_le_pow_right (by decide) (by omega)
    rw [Nat.testBit_lt_two_pow (Nat.lt_of_lt_of_le hx h2), Nat.testBit_lt_two_pow (Nat.lt_of_lt_of_le hy h2)]
theorem words_mem {a b : List Nat} (hl : a.length = b.length) (ha : ∀ j, wd a j < 18446744073709551616) (hb : ∀ j, wd b j < 18446744073709551616) (h : ∀ e, mem a e = mem b e) : a = b := by
  refine words_ext hl fun j => nat_ext (ha j) (hb j) fun i hi => ?_
  have := h (64 * j + i)
  unfold mem at this
  rwa [show (64 * j + i) / 64 = j from by omega, show (64 * j + i) % 64 = i from by omega] at this
theorem Ws.unique {a b : List Nat} {n : Nat} {f g : Nat → Bool} (ha : Ws a n f) (hb : Ws b n g) (h : ∀ e, e < n → f e = g e) : a = b := by
  refine words_mem (by rw [ha.len, hb.len]) ha.lt hb.lt fun e => ?_
  rw [ha.has, hb.has]
  by_cases he : e < n
  · rw [h e he]
  · simp [he]
theorem Ws.congr {a : List Nat} {n : Nat} {f g : Nat → Bool} (ha : Ws a n f) (h : ∀ e, e < n → f e = g e) : Ws a n g := by
  refine ⟨ha.len, ha.lt, fun e => ?_⟩
  rw [ha.has]
  by_cases he : e < n
  · rw [h e he]
  · simp [he]
theorem Ws.self {a : List Nat} {n : Nat} {f : Nat → Bool} (ha : Ws a n f) : Ws a n (mem a) := by
  refine ⟨ha.len, ha.lt, fun e => ?_⟩
  rw [ha.has]
  by_cases he : e < n <;> simp [he]
theorem mem_ge {ws : List Nat} {e : Nat} (h : ws.length ≤ e / 64) : mem ws e = false := by
  unfold mem
  rw [wd_ge h]
  exact Nat.zero_testBit _
theorem wd_replicate (n j : Nat) : wd (List.replicate n 0) j = 0 := by
  unfold wd
  rw [List.getD_eq_getElem?_getD, List.getElem?_replicate]
  split <;> rfl
theorem Ws.empty (n : Nat) : Ws (List.replicate (nw n) 0) n (fun _ => false) := by
  refine ⟨by simp, fun j => by rw [wd_replicate]; decide, fun e => ?_⟩
  unfold mem
  rw [wd_replicate, Nat.zero_testBit]
  simp
/-- ws with the number e -/
def setb (ws : List Nat) (e : Nat) : List Nat := ws.set (e / 64) (wd ws (e / 64) ||| 2 ^ (e % 64))
theorem setb_length (ws : List Nat) (e : Nat) : (setb ws e).length = ws.length := by simp [setb]
theorem wd_set (ws : List Nat) (j x i : Nat) (h : j < ws.length) : wd (ws.set j x) i = if i = j then x else wd ws i := by
  unfold wd
  rw [List.getD_eq_getElem?_getD, List.getD_eq_getElem?_getD, List.getElem?_set]
  by_cases hi : j = i
  · subst hi; simp [h]
  · have : ¬ i = j := fun h => hi h.symm
    simp [hi, this]
theorem pow_lt64 (e : Nat) : 2 ^ (e % 64) < 18446744073709551616 := by
  have : (18446744073709551616 : Nat) = 2 ^ 64 := by decide
  rw [this]
  exact Nat.pow_lt_pow_right (by decide) (by omega)
theorem or_lt64 {x y : Nat} (hx : x < 18446744073709551616) (hy : y < 18446744073709551616) : x ||| y < 18446744073709551616 := by
  have : (18446744073709551616 : Nat) = 2 ^ 64 := by decide
  rw [this] at *
  exact Nat.or_lt_two_pow hx hy
theorem setb_lt {ws : List Nat} (h : ∀ j, wd ws j < 18446744073709551616) (e : Nat) (j : Nat) : wd (setb ws e) j < 18446744073709551616 := by
  by_cases he : e / 64 < ws.length
  · unfold setb
    rw [wd_set _ _ _ _ he]
    split
    · exact or_lt64 (h _) (pow_lt64 e)
    · exact h j
  · have : setb ws e = ws := by unfold setb; rw [List.set_eq_of_length_le (by omega)]
    rw [this]
    exact h j
theorem mem_setb {ws : List Nat} {e : Nat} (he : e / 64 < ws.length) (i : Nat) : mem (setb ws e) i = (mem ws i || decide (i = e)) := by
  unfold mem setb
  rw [wd_set _ _ _ _ he]
  by_cases hj : i / 64 = e / 64
  · rw [if_pos hj, Nat.testBit_or, Nat.testBit_two_pow, ← hj]
    congr 1
    by_cases hi : i = e
    · subst hi; simp
    · have : ¬ e % 64 = i % 64 := by omega
      simp [hi, this]
  · rw [if_neg hj]
    have : ¬ i = e := by rintro rfl; exact hj rfl
    simp [this]
theorem Ws.put {ws : List Nat} {n e : Nat} {f : Nat → Bool} (h : Ws ws n f) (he : e < n) : Ws (setb ws e) n (fun i => f i || decide (i = e)) := by
  refine ⟨by rw [setb_length, h.len], setb_lt h.lt e, fun i => ?_⟩
  rw [mem_setb (by rw [h.len, nw_eq]; omega), h.has]
  by_cases hi : i < n
  · simp [hi]
  · have : ¬ i = e := by omega
    simp [hi, this]

/-! ### a block of words of the call's own: known up to the room behind -/
def enc64 (ws : List Nat) : List Value := ws.map fun (x : Nat) => Value.int .u64 x
def WB (w : World) (g : Nat) (ws : List Nat) : Prop := ∃ sp : List Value, w.heap[g]? = some (.cells (enc64 ws ++ sp).toArray 75 (0, 0))
theorem WB.lt {w : World} {g : Nat} {ws : List Nat} (h : WB w g ws) : g < w.heap.size := by obtain ⟨sp, h⟩ := h; exact blk_lt h
theorem WB.cell {w : World} {g : Nat} {ws : List Nat} (h : WB w g ws) {j : Nat} (hj : j < ws.length) : w.cell? ⟨g, j, none⟩ = some (.int .u64 (wd ws j)) := by
  obtain ⟨sp, h⟩ := h
  rw [cell_of_row w g j _ _ _ h, List.getElem?_toArray, List.getElem?_append_left (by simpa [enc64] using hj), wd_lt hj]
  simp [enc64, hj]
theorem WB.frozen {w : World} {g : Nat} {ws : List Nat} (h : WB w g ws) (j : Nat) : w.frozen? ⟨g, j, none⟩ = false := by
  obtain ⟨sp, h⟩ := h
  simp [World.frozen?, h]
theorem WB.set {w : World} {g : Nat} {ws : List Nat} (h : WB w g ws) {j : Nat} (hj : j < ws.length) (x : Nat) : WB (w.setCell ⟨g, j, none⟩ (.int .u64 x)) g (ws.set j x) := by
  obtain ⟨sp, h⟩ := h
  refine ⟨sp, (hs_same h j _).trans ?_⟩
  congr 2
  rw [List.setIfInBounds_toArray, List.set_append_left _ _ (by simpa [enc64] using hj)]
  congr 2
  simp [enc64, List.map_set]
theorem WB.other {w : World} {g : Nat} {ws : List Nat} (h : WB w g ws) {p : Addr} (hp : g ≠ p.block) (u : Value) : WB (w.setCell p u) g ws := by
  obtain ⟨sp, h⟩ := h
  exact ⟨sp, (hs_other w p u g hp).trans h⟩
theorem WB.alloc {w : World} {g : Nat} {ws : List Nat} (h : WB w g ws) (o : Obj) : WB (w.alloc o) g ws := by
  obtain ⟨sp, h⟩ := h
  exact ⟨sp, (ha_old w o g (blk_lt h)).trans h⟩
theorem WB.below {w w' : World} {g : Nat} {ws : List Nat} (h : WB w g ws) (hb : Below w.heap.size w w') : WB w' g ws := by
  obtain ⟨sp, h⟩ := h
  exact ⟨sp, (hb.block g (blk_lt h)).trans h⟩
theorem WB.grown {w w' : World} {g : Nat} {ws : List Nat} {row : Option Nat} (h : WB w g ws) (hb : w.grownBy w' row) (hne : some g ≠ row) : WB w' g ws := by
  obtain ⟨sp, h⟩ := h
  exact ⟨sp, (hb.block g (blk_lt h) hne).trans h⟩
theorem WB.rd {w : World} {g : Nat} {ws : List Nat} (h : WB w g ws) : Rd w (some ⟨g, 0, none⟩) ws := fun j hj => ⟨g, 0, rfl, h.lt, by rw [Nat.zero_add]; exact h.cell hj⟩
theorem WB.made (w : World) (n : Nat) : WB (w.alloc (.cells (madeCells #[.int .u64 0] n) 75)) w.heap.size (List.replicate n 0) := by
  refine ⟨[], (ha_new _ _ _ rfl).trans ?_⟩
  congr 2
  rw [List.append_nil]
  have := toList_madeCells_one (.int .u64 0) n
  rw [← Array.toList_inj, this]
  simp [enc64]
theorem bl_g {w W W' : World} {g : Nat} (h : Below w.heap.size w W) (hg : W.grownBy W' (some g)) (hw : w.heap.size ≤ g) : Below w.heap.size w W' :=
  h.grown hg h.size (fun k hk => by injection hk with hk; omega)
theorem grown_set {w W : World} {g : Nat} (h : w.grownBy W (some g)) (j : Nat) (u : Value) : w.grownBy (W.setCell ⟨g, j, none⟩ u) (some g) :=
  ⟨h.os, h.tape, h.output, by rw [size_set]; exact h.size, fun k hk hne => by
    have hn : k ≠ g := fun e => hne (by rw [e])
    exact (hs_other W _ u k hn).trans (h.block k hk hne)⟩
theorem grown_alloc {w W : World} {row : Option Nat} (h : w.grownBy W row) (o : Obj) : w.grownBy (W.alloc o) row :=
  ⟨h.os, h.tape, h.output, by have := h.size; simp; omega, fun k hk hne => (ha_old W o k (Nat.lt_of_lt_of_le hk h.size)).trans (h.block k hk hne)⟩
theorem grown_drew {w W : World} {row : Option Nat} (h : w.grownBy W row) : w.grownBy W.drew row := ⟨h.os, h.tape, h.output, h.size, h.block⟩
theorem grown_refl (w : World) (row : Option Nat) : w.grownBy w row := ⟨rfl, rfl, rfl, Nat.le_refl _, fun _ _ _ => rfl⟩
theorem grown_below {w W : World} (h : Below w.heap.size w W) (row : Option Nat) : w.grownBy W row := ⟨h.os, h.tape, h.output, h.size, fun k hk _ => h.block k hk⟩
end Go.Proofs.Ytlmjfcieiengcaa
