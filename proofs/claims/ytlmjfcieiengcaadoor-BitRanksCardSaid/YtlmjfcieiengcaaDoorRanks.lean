/- slopelaw3.BitRanks returns true, the table lying in its variable. The length is one that a slice can have. -/
import Derived.Test.YtlmjfcieiengcaaDoorCount
import Derived.Test.YtlmjfcieiengcaaDoorAlive
import Derived.Test.YtlmjfcieiengcaaDoorRPlaces
namespace Go.Proofs.YtlmjfcieiengcaaDoor
open Go.RowKit
/-! ### plain -/
def cntf (f : Nat → Bool) : Nat → Nat
  | 0 => 0
  | k + 1 => cntf f k + (if f k then 1 else 0)
theorem cntf_congr {f g : Nat → Bool} {n : Nat} (h : ∀ e, e < n → f e = g e) : cntf f n = cntf g n := by
  induction n with
  | zero => rfl
  | succ n ih => rw [cntf, cntf, ih fun e he => h e (by omega), h n (by omega)]
theorem cntf_add (f : Nat → Bool) (x : Nat) : ∀ n, cntf (fun y => f y || decide (y = x)) n ≤ cntf f n + (if x < n then 1 else 0) := by
  intro n
  induction n with
  | zero => simp [cntf]
  | succ n ih =>
    rw [cntf, cntf]
    by_cases hx : x < n
    · have h1 : ¬ n = x := by omega
      rw [if_pos hx] at ih
      rw [if_pos (show x < n + 1 from by omega)]
      simp only [h1, decide_false, Bool.or_false]
      omega
    · rw [if_neg hx] at ih
      by_cases h1 : n = x
      · subst h1
        rw [if_pos (Nat.lt_succ_self n)]
        simp only [decide_true, Bool.or_true, if_true]
        omega
      · rw [if_neg (show ¬ x < n + 1 from by omega)]
        simp only [h1, decide_false, Bool.or_false]
        omega
theorem cnt_cntf (ws : List Nat) : ∀ n, cnt ws n = cntf (mem ws) n := by
  intro n
  induction n with
  | zero => rfl
  | succ n ih => rw [cnt, cntf, ih]
theorem mkgo_set {n m : Nat} {f : Nat → Bool} : ∀ {zs : List Int} {f0 : Nat → Bool}, mkgo n zs f0 = .set m f → m = n ∧ (∀ x ∈ zs, 0 ≤ x ∧ x < (n : Int)) ∧ (∀ x ∈ zs, f x.toNat = true) ∧ (∀ y, f0 y = true → f y = true) ∧ cntf f n ≤ cntf f0 n + zs.length := by
  intro zs
  induction zs with
  | nil =>
    intro f0 h
    injection h with h1 h2
    subst h1 h2
    exact ⟨rfl, by simp, by simp, fun _ h => h, by simp⟩
  | cons x l ih =>
    intro f0 h
    rw [mkgo] at h
    split at h
    · cases h
    · rename_i hx
      obtain ⟨h1, h2, h3, h4, h5⟩ := ih h
      refine ⟨h1, ?_, ?_, fun y hy => h4 y (by simp [hy]), ?_⟩
      · intro y hy
        rcases List.mem_cons.1 hy with rfl | hy
        · omega
        · exact h2 y hy
      · intro y hy
        rcases List.mem_cons.1 hy with rfl | hy
        · exact h4 _ (by simp)
        · exact h3 y hy
      · have h6 := cntf_add f0 x.toNat n
        have h7 : (if x.toNat < n then 1 else 0) ≤ 1 := by split <;> omega
        simp only [List.length_cons]
        omega
/-- what is known of the set that Make made -/
structure Made (n : Nat) (zs : List Int) (ws : List Nat) : Prop where
  hn : n ≤ 4096
  set : ∃ f, Ws ws n f
  lo : ∀ x ∈ zs, 0 ≤ x ∧ x < (n : Int)
  has : ∀ x ∈ zs, mem ws x.toNat = true
  le : cnt ws n ≤ zs.length
theorem made_of {n m : Nat} {zs : List Int} {ws : List Nat} {f : Nat → Bool} (hs : szB n = true) (h : mkgo n zs (fun _ => false) = .set m f) (hws : Ws ws m f) : m = n ∧ Made n zs ws := by
  obtain ⟨rfl, h2, h3, _, h5⟩ := mkgo_set h
  have hn : m ≤ 4096 := by unfold szB at hs; simp at hs; omega
  have h0 : cntf (fun _ => false) m = 0 := by
    have : ∀ k, cntf (fun _ => false) k = 0 := by
      intro k
      induction k with
      | zero => rfl
      | succ k ih => rw [cntf, ih]; rfl
    exact this m
  refine ⟨rfl, hn, ⟨f, hws⟩, h2, fun x hx => ?_, ?_⟩
  · rw [hws.has, h3 x hx]
    have := h2 x hx
    have h6 : x.toNat < m := by omega
    simp [h6]
  · rw [cnt_cntf, cntf_congr (g := f) fun e he => by rw [hws.has]; simp [he]]
    omega
section
variable {n : Nat} {zs : List Int} {ws : List Nat}
theorem Made.may (h : Made n zs ws) : mayB n ws = true := by obtain ⟨f, hf⟩ := h.set; exact hf.mayB h.hn
theorem Made.lt (h : Made n zs ws) (j : Nat) : wd ws j < 18446744073709551616 := by obtain ⟨f, hf⟩ := h.set; exact hf.lt j
theorem Made.len (h : Made n zs ws) : ws.length = nw n := by obtain ⟨f, hf⟩ := h.set; exact hf.len
theorem Made.low (h : Made n zs ws) {e : Nat} (he : Go.Proofs.YtlmjfcieiengcaaDoor.mem ws e = true) : e < n := (mayP_of h.may).low h.lt he
theorem Made.rk (h : Made n zs ws) (e : Nat) (he : e ≤ n) : Go.Proofs.YtlmjfcieiengcaaDoor.rk n ws e = cnt ws e := by
  unfold Go.Proofs.YtlmjfcieiengcaaDoor.rk
  rw [if_pos h.may]
  congr 1
  unfold clp
  omega
theorem Made.cn (h : Made n zs ws) : Go.Proofs.YtlmjfcieiengcaaDoor.cn n ws = cnt ws n := by
  unfold Go.Proofs.YtlmjfcieiengcaaDoor.cn
  rw [if_pos h.may]
  rfl
theorem Made.sel (h : Made n zs ws) (k : Nat) : Go.Proofs.YtlmjfcieiengcaaDoor.sel n ws k = oI (nth ws k n) := by
  unfold Go.Proofs.YtlmjfcieiengcaaDoor.sel
  rw [if_pos ⟨h.may, by omega⟩]
  rfl
theorem Made.sel_at (h : Made n zs ws) {e : Nat} (he : Go.Proofs.YtlmjfcieiengcaaDoor.mem ws e = true) : Go.Proofs.YtlmjfcieiengcaaDoor.sel n ws (cnt ws e : Nat) = e := by
  rw [h.sel, nth_eq (h.low he) he rfl]
  rfl
theorem Made.sel_end (h : Made n zs ws) : Go.Proofs.YtlmjfcieiengcaaDoor.sel n ws (cnt ws n : Nat) = -1 := by
  rw [h.sel, nth_none_of (Nat.le_refl _)]
  rfl
theorem sel_neg (sz : Int) (ws : List Nat) : sel sz ws (-1) = -1 := by
  unfold sel
  rw [if_neg (by rintro ⟨_, h⟩; omega)]
theorem Made.las_at (h : Made n zs ws) {e : Nat} (he : Go.Proofs.YtlmjfcieiengcaaDoor.mem ws e = true) : las n ws e = e := by
  have h1 := h.low he
  have h2 := h.hn
  unfold las
  rw [if_neg (by omega), show min (e : Int) 4096 + 1 = ((e + 1 : Nat) : Int) from by omega, h.rk (e + 1) (by omega), cnt_mem he, show ((cnt ws e + 1 : Nat) : Int) - 1 = (cnt ws e : Nat) from by omega]
  exact h.sel_at he
theorem Made.has_at (h : Made n zs ws) {e : Nat} (he : Go.Proofs.YtlmjfcieiengcaaDoor.mem ws e = true) : hasB n ws e = true := by
  unfold hasB
  rw [h.may, show inB e n = true from by unfold inB; have := h.low he; simp; omega]
  simpa using he
/-- the k-th member -/
theorem Made.kth (h : Made n zs ws) {k a : Nat} (hk : k < cnt ws n) (ha : cnt ws a = k) : ∃ e, Go.Proofs.YtlmjfcieiengcaaDoor.mem ws e = true ∧ cnt ws e = k ∧ a ≤ e ∧ e < n := by
  obtain ⟨e, he⟩ := nth_of_lt hk
  obtain ⟨h1, h2, h3⟩ := nth_some he
  refine ⟨e, h2, h3, ?_, h1⟩
  apply Decidable.byContradiction
  intro hlt
  have h4 := cnt_le_of (ws := ws) (show e + 1 ≤ a from by omega)
  rw [cnt_mem h2] at h4
  omega
end
structure BoxS (w W : World) (b g n c : Nat) (ws : List Nat) : Prop where
  bx : W.heap[b]? = some (.cells #[.int .i64 n, .slice (some ⟨g, 0, none⟩) ws.length c] 24 (0, 0))
  wb : WB W g ws
  bl : Below w.heap.size w W
theorem BoxS.step {w W W' : World} {b g n c : Nat} {ws : List Nat} (h : BoxS w W b g n c ws) (hb : Below W.heap.size W W') : BoxS w W' b g n c ws :=
  ⟨(hb.block _ (blk_lt h.bx)).trans h.bx, h.wb.below hb, bl_t h.bl hb⟩
end Go.Proofs.YtlmjfcieiengcaaDoor
