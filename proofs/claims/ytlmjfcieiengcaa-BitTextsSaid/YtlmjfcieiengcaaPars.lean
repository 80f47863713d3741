/- What a set's text says, told once over the values of its numbers; cut values tell the same. Plain: no program. -/
import Derived.Test.YtlmjfcieiengcaaForm
namespace Go.Proofs.Ytlmjfcieiengcaa
def Chained (s : ByteArray) : Nat → List Tok → Prop
  | _, [] => True
  | p, x :: l => p < s.size ∧ x.t = nxt (by_ s p) ∧ Chained s x.e l
theorem scan_chained (s : ByteArray) : ∀ d p one, s.size - p = d → p < s.size → (scan s (p + 1) (nxt (by_ s p)) one).2 = none → Chained s p (scan s (p + 1) (nxt (by_ s p)) one).1 := by
  intro d
  induction d using Nat.strongRecOn with
  | ind d ih =>
    intro p one hd hp h
    have hE := dnd_dend (s := s) (a := p + 1) (by omega)
    by_cases h0 : dnd s (p + 1) = p + 1
    · rw [h0] at hE
      by_cases h1 : (p + 1 = s.size ∧ nxt (by_ s p) = 1 ∧ one = true)
      · rw [scan_fin hE h1.1 h1.2.1 h1.2.2]; trivial
      · rw [scan_none hE h1] at h; simp at h
    · have hlt : p + 1 < dnd s (p + 1) := by have := hE.le; omega
      have hn : nxt (by_ s p) ≠ 0 := by unfold nxt; split <;> decide
      by_cases h1 : dnd s (p + 1) = s.size
      · rw [scan_end hE hlt h1 hn]
        exact ⟨hp, rfl, trivial⟩
      · have h2 : dnd s (p + 1) < s.size := by have := hE.len; omega
        by_cases h3 : aft (nxt (by_ s p)) (by_ s (dnd s (p + 1))) = true
        · rw [scan_go hE hlt h2 h3] at h ⊢
          exact ⟨hp, rfl, ih (s.size - dnd s (p + 1)) (by omega) (dnd s (p + 1)) _ rfl h2 h⟩
        · rw [scan_bad hE hlt h2 (by simpa using h3)] at h
          simp at h
theorem scan_head {s : ByteArray} (h : (scan s 0 0 false).2 = none) : ∃ e l, (scan s 0 0 false).1 = ⟨0, e, 0⟩ :: l ∧ Chained s e l ∧ e < s.size ∧ by_ s e = 58 := by
  have hE := dnd_dend (s := s) (a := 0) (by omega)
  by_cases h0 : dnd s 0 = 0
  · rw [h0] at hE
    rw [scan_none hE (by simp)] at h; simp at h
  · have hlt : 0 < dnd s 0 := by omega
    by_cases h1 : dnd s 0 = s.size
    · rw [scan_end0 hE hlt h1 rfl] at h; simp at h
    · have h2 : dnd s 0 < s.size := by have := hE.len; omega
      by_cases h3 : aft 0 (by_ s (dnd s 0)) = true
      · rw [scan_go hE hlt h2 h3] at h ⊢
        exact ⟨_, _, rfl, scan_chained s _ _ _ rfl h2 h, h2, by simpa [aft] using h3⟩
      · rw [scan_bad hE hlt h2 (by simpa using h3)] at h
        simp at h
/-- what is answered: a place and an error, or a set -/
inductive Ans where
  | err (p e : Nat)
  | set (n : Nat) (f : Nat → Bool)
/-- is a number refused behind the one before? -/
def low (prev : Option Nat) (v : Nat) (last : Bool) : Bool := match prev with
  | none => false
  | some p => if last then decide (v ≤ p) else decide (v < p + 2)
/-- the numbers from there on, too -/
def more (prev : Option Nat) (v : Nat) (last : Bool) (f : Nat → Bool) : Nat → Bool := fun e => f e || (if last then decide (prev.getD 0 ≤ e ∧ e ≤ v) else decide (e = v))
def pgo (n : Nat) : Option Nat → List (Nat × Nat × Bool) → (Nat → Bool) → Ans
  | _, [], f => .set n f
  | prev, (a, v, last) :: l, f => if ¬ v < n then .err a 62 else if low prev v last = true then .err a 1 else pgo n (some v) l (more prev v last f)
def vals (V : Nat → Nat → Nat) (l : List Tok) : List (Nat × Nat × Bool) := l.map fun t => (t.a, V t.a (t.e - t.a), t.t == 2)
def pspec (s : ByteArray) (V : Nat → Nat → Nat) : Ans :=
  if 65536 < s.size then .err 65536 4
  else match scan s 0 0 false with
    | (_, some p) => .err p 5
    | ([], none) => .err 0 0
    | (t :: l, none) => if 4096 < V t.a (t.e - t.a) then .err 0 60 else pgo (V t.a (t.e - t.a)) none (vals V l) fun _ => false
def Agree (x y : Nat) : Prop := x = y ∨ (5000 ≤ x ∧ 5000 ≤ y)
theorem cv_rv (s : ByteArray) (a k : Nat) : Agree (cv s a k) (rv s a k) := by
  induction k with
  | zero => exact .inl rfl
  | succ k ih =>
    simp only [cv, rv]
    generalize by_ s (a + k) - 48 = d
    generalize cv s a k = x at ih
    generalize rv s a k = y at ih
    have hd : d < 256 ∨ 256 ≤ d := by omega
    rcases ih with rfl | ⟨h1, h2⟩
    · by_cases h : x < 100000
      · rw [if_pos h]
        by_cases h2 : x * 10 + d < 1048576
        · exact .inl (by omega)
        · exact .inr (by omega)
      · rw [if_neg h]; exact .inr (by omega)
    · refine .inr ⟨by omega, ?_⟩
      split <;> omega
theorem pgo_agree (n : Nat) (hn : n ≤ 4096) (V V' : Nat → Nat → Nat) (h : ∀ a k, Agree (V a k) (V' a k)) : ∀ l prev f, pgo n prev (vals V l) f = pgo n prev (vals V' l) f := by
  intro l
  induction l with
  | nil => intro prev f; rfl
  | cons t l ih =>
    intro prev f
    simp only [vals, List.map_cons, pgo]
    rcases h t.a (t.e - t.a) with e | ⟨h1, h2⟩
    · rw [e]
      split
      · rfl
      · split
        · rfl
        · exact ih _ _
    · rw [if_pos (by omega), if_pos (by omega)]
theorem pspec_agree (s : ByteArray) (V V' : Nat → Nat → Nat) (h : ∀ a k, Agree (V a k) (V' a k)) : pspec s V = pspec s V' := by
  unfold pspec
  split
  · rfl
  · split
    · rfl
    · rfl
    · rename_i t l _
      rcases h t.a (t.e - t.a) with e | ⟨h1, h2⟩
      · rw [e]
        split
        · rfl
        · exact pgo_agree _ (by omega) V V' h _ _ _
      · rw [if_pos (by omega), if_pos (by omega)]
end Go.Proofs.Ytlmjfcieiengcaa
