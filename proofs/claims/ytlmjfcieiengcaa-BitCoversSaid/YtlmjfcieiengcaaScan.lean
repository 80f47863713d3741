/- The form of a set's text, told once: the numbers, with where each begins and ends, or the place at which nothing goes on. Plain: no program. -/
import Derived.Test.YtlmjfcieiengcaaBase
namespace Go.Proofs.Ytlmjfcieiengcaa
/-- a digit -/
def isd (c : Nat) : Prop := 48 ≤ c ∧ c ≤ 57
/-- the value of k digits from at on, cut -/
def cv (s : ByteArray) (at_ : Nat) : Nat → Nat
  | 0 => 0
  | k + 1 => min (cv s at_ k * 10 + (by_ s (at_ + k) - 48)) 1048576
theorem cv_le (s : ByteArray) (at_ k : Nat) : cv s at_ k ≤ 1048576 := by cases k <;> simp only [cv] <;> omega
/-- the digits end at e -/
structure DEnd (s : ByteArray) (at_ e : Nat) : Prop where
  le : at_ ≤ e
  len : e ≤ s.size
  ds : ∀ i, at_ ≤ i → i < e → isd (by_ s i)
  stop : (e = at_ + 1 ∧ by_ s at_ = 48) ∨ ((at_ < e → by_ s at_ ≠ 48) ∧ (e < s.size → ¬ isd (by_ s e)))

theorem dend_unique {s : ByteArray} {a e f : Nat} (h : DEnd s a e) (k : DEnd s a f) : e = f := by
  have key : ∀ {e f : Nat}, DEnd s a e → DEnd s a f → ¬ e < f := by
    intro e f h k hlt
    have hd := k.ds e h.le hlt
    rcases h.stop with ⟨h1, h2⟩ | ⟨h1, h2⟩
    · rcases k.stop with ⟨k1, k2⟩ | ⟨k1, k2⟩
      · omega
      · exact k1 (by omega) h2
    · exact h2 (by have := k.len; omega) hd
  have h1 := key h k
  have h2 := key k h
  omega
instance (c : Nat) : Decidable (isd c) := inferInstanceAs (Decidable (48 ≤ c ∧ c ≤ 57))
def drun (s : ByteArray) : Nat → Nat → Nat
  | 0, i => i
  | f + 1, i => if i < s.size ∧ isd (by_ s i) then drun s f (i + 1) else i
def dnd (s : ByteArray) (a : Nat) : Nat := if a < s.size ∧ by_ s a = 48 then a + 1 else drun s (s.size - a) a
theorem drun_spec (s : ByteArray) : ∀ f i, i + f = s.size → i ≤ drun s f i ∧ drun s f i ≤ s.size ∧ (∀ j, i ≤ j → j < drun s f i → isd (by_ s j)) ∧ (drun s f i < s.size → ¬ isd (by_ s (drun s f i))) := by
  intro f
  induction f with
  | zero => intro i h; simp only [drun]; exact ⟨by omega, by omega, fun j h1 h2 => by omega, fun h1 => by omega⟩
  | succ f ih =>
    intro i h
    simp only [drun]
    split
    · rename_i hc
      obtain ⟨h1, h2, h3, h4⟩ := ih (i + 1) (by omega)
      refine ⟨by omega, h2, fun j j1 j2 => ?_, h4⟩
      by_cases hj : j = i
      · subst hj; exact hc.2
      · exact h3 j (by omega) j2
    · rename_i hc
      exact ⟨by omega, by omega, fun j j1 j2 => by omega, fun h1 h2 => hc ⟨h1, h2⟩⟩
theorem dnd_dend {s : ByteArray} {a : Nat} (h : a ≤ s.size) : DEnd s a (dnd s a) := by
  unfold dnd
  split
  · rename_i hc
    exact ⟨by omega, by omega, fun i h1 h2 => by have : i = a := by omega
                                                 subst this; unfold isd; omega, .inl ⟨rfl, hc.2⟩⟩
  · rename_i hc
    obtain ⟨h1, h2, h3, h4⟩ := drun_spec s (s.size - a) a (by omega)
    exact ⟨h1, h2, h3, .inr ⟨fun hlt h0 => hc ⟨by omega, h0⟩, h4⟩⟩
theorem dend_eq {s : ByteArray} {a e : Nat} (h : DEnd s a e) : dnd s a = e := dend_unique (dnd_dend (Nat.le_trans h.le h.len)) h

structure Tok where
  a : Nat
  e : Nat
  t : Nat
/-- may c stand behind a number at that turn (0: the size; 1: a run's first; 2: a run's last)? -/
def aft (t c : Nat) : Bool := if t = 0 then c == 58 else if t = 1 then c == 44 || c == 45 else c == 44
def nxt (c : Nat) : Nat := if c = 45 then 2 else 1
/-- what stands from a on at a turn; one: a single number stands before -/
def scan (s : ByteArray) (a t : Nat) (one : Bool) : List Tok × Option Nat :=
  if _h : s.size < a then ([], some a)
  else if dnd s a = a then (if a = s.size ∧ t = 1 ∧ one = true then ([], none) else ([], some a))
  else if s.size ≤ dnd s a then (if t = 0 then ([], some (dnd s a)) else ([⟨a, dnd s a, t⟩], none))
  else if aft t (by_ s (dnd s a)) = true then (⟨a, dnd s a, t⟩ :: (scan s (dnd s a + 1) (nxt (by_ s (dnd s a))) (t == 0)).1, (scan s (dnd s a + 1) (nxt (by_ s (dnd s a))) (t == 0)).2)
  else ([], some (dnd s a))
termination_by s.size + 1 - a
decreasing_by
  all_goals
    have := (dnd_dend (s := s) (a := a) (by omega)).le
    omega
theorem scan_fin {s : ByteArray} {a t : Nat} {one : Bool} (h : DEnd s a a) (h1 : a = s.size) (h2 : t = 1) (h3 : one = true) : scan s a t one = ([], none) := by
  rw [scan, dif_neg (by omega), dend_eq h, if_pos rfl, if_pos ⟨h1, h2, h3⟩]
theorem scan_none {s : ByteArray} {a t : Nat} {one : Bool} (h : DEnd s a a) (h1 : ¬ (a = s.size ∧ t = 1 ∧ one = true)) : scan s a t one = ([], some a) := by
  rw [scan, dif_neg (by have := h.len; omega), dend_eq h, if_pos rfl, if_neg h1]
theorem scan_end {s : ByteArray} {a e t : Nat} {one : Bool} (h : DEnd s a e) (hlt : a < e) (h1 : e = s.size) (h2 : t ≠ 0) : scan s a t one = ([⟨a, e, t⟩], none) := by
  rw [scan, dif_neg (by omega), dend_eq h, if_neg (by omega), if_pos (by omega), if_neg h2]
theorem scan_end0 {s : ByteArray} {a e t : Nat} {one : Bool} (h : DEnd s a e) (hlt : a < e) (h1 : e = s.size) (h2 : t = 0) : scan s a t one = ([], some e) := by
  rw [scan, dif_neg (by omega), dend_eq h, if_neg (by omega), if_pos (by omega), if_pos h2]
theorem scan_bad {s : ByteArray} {a e t : Nat} {one : Bool} (h : DEnd s a e) (hlt : a < e) (h1 : e < s.size) (h2 : aft t (by_ s e) = false) : scan s a t one = ([], some e) := by
  rw [scan, dif_neg (by omega), dend_eq h, if_neg (by omega), if_neg (by omega), if_neg (by simp [h2])]
theorem scan_go {s : ByteArray} {a e t : Nat} {one : Bool} (h : DEnd s a e) (hlt : a < e) (h1 : e < s.size) (h2 : aft t (by_ s e) = true) :
    scan s a t one = (⟨a, e, t⟩ :: (scan s (e + 1) (nxt (by_ s e)) (t == 0)).1, (scan s (e + 1) (nxt (by_ s e)) (t == 0)).2) := by
  rw [scan, dif_neg (by omega), dend_eq h, if_neg (by omega), if_neg (by omega), if_pos h2]
/-- what has been read, and what is still to come -/
def Part (s : ByteArray) (pre : List Tok) (a t : Nat) (one : Bool) : Prop :=
  (scan s 0 0 false).2 = (scan s a t one).2 ∧ ((scan s a t one).2 = none → (scan s 0 0 false).1 = pre ++ (scan s a t one).1)
theorem part_start (s : ByteArray) : Part s [] 0 0 false := ⟨rfl, fun _ => rfl⟩
theorem part_go {s : ByteArray} {pre : List Tok} {a e t : Nat} {one : Bool} (h : Part s pre a t one) (hd : DEnd s a e) (hlt : a < e) (h1 : e < s.size) (h2 : aft t (by_ s e) = true) :
    Part s (pre ++ [⟨a, e, t⟩]) (e + 1) (nxt (by_ s e)) (t == 0) := by
  obtain ⟨p1, p2⟩ := h
  rw [scan_go hd hlt h1 h2] at p1 p2
  exact ⟨p1, fun h => by rw [p2 h, List.append_assoc]; rfl⟩
theorem part_bad {s : ByteArray} {pre : List Tok} {a t p : Nat} {one : Bool} {l : List Tok} (h : Part s pre a t one) (h1 : scan s a t one = (l, some p)) : (scan s 0 0 false).2 = some p := by rw [h.1, h1]
theorem part_ok {s : ByteArray} {pre : List Tok} {a t : Nat} {one : Bool} {l : List Tok} (h : Part s pre a t one) (h1 : scan s a t one = (l, none)) : (scan s 0 0 false).2 = none ∧ (scan s 0 0 false).1 = pre ++ l :=
  ⟨by rw [h.1, h1], by rw [h.2 (by rw [h1]), h1]⟩
end Go.Proofs.Ytlmjfcieiengcaa
