/- What a greedy cover is, with no program in sight. -/
import Derived.Test.YtlmjfcieiengcaaLat
import Derived.Test.YtlmjfcieiengcaaUnion
import Derived.Test.YtlmjfcieiengcaaTable
import Derived.Test.YtlmjfcieiengcaaRList
namespace Go.Proofs.Ytlmjfcieiengcaa
open Go.RowKit
theorem cntb_pos {f : Nat → Bool} {n : Nat} (h : 0 < cntb f n) : ∃ e, e < n ∧ f e = true := by
  apply Decidable.byContradiction
  intro hn
  have := cntb_zero (f := f) (n := n) fun e he => by
    cases hf : f e with
    | false => rfl
    | true => exact absurd ⟨e, he, hf⟩ hn
  omega
theorem cntb_pos_of {f : Nat → Bool} {n e : Nat} (he : e < n) (hf : f e = true) : 0 < cntb f n := by
  induction n with
  | zero => omega
  | succ n ih =>
    rw [cntb]
    by_cases h : e = n
    · subst h
      rw [hf]
      simp
    · have := ih (by omega)
      omega
theorem cntb_split (f g : Nat → Bool) (n : Nat) : cntb (fun e => f e && g e) n + cntb (fun e => f e && !g e) n = cntb f n := by
  induction n with
  | zero => rfl
  | succ n ih =>
    rw [cntb, cntb, cntb, ← ih]
    cases f n <;> cases g n <;> simp <;> omega
/-- the best of the first k sets for a truth: which, and how many it has of it -/
def bst (g : Nat → Nat → Bool) (f : Nat → Bool) (n : Nat) : Nat → Nat × Nat
  | 0 => (0, 0)
  | k + 1 => if (bst g f n k).2 < cntb (fun e => f e && g k e) n then (k, cntb (fun e => f e && g k e) n) else bst g f n k
theorem bst_lt (g : Nat → Nat → Bool) (f : Nat → Bool) (n : Nat) : ∀ k, (bst g f n k).1 ≤ k ∧ (0 < (bst g f n k).2 → (bst g f n k).1 < k ∧ cntb (fun e => f e && g (bst g f n k).1 e) n = (bst g f n k).2) := by
  intro k
  induction k with
  | zero => exact ⟨Nat.le_refl _, fun h => by simp [bst] at h⟩
  | succ k ih =>
    rw [bst]
    split
    · exact ⟨by simp, fun _ => ⟨by simp, rfl⟩⟩
    · exact ⟨by omega, fun h => ⟨by have := (ih.2 h).1; omega, (ih.2 h).2⟩⟩
theorem bst_ge (g : Nat → Nat → Bool) (f : Nat → Bool) (n : Nat) : ∀ k j, j < k → cntb (fun e => f e && g j e) n ≤ (bst g f n k).2 := by
  intro k
  induction k with
  | zero => intro j h; omega
  | succ k ih =>
    intro j h
    rw [bst]
    by_cases e : j = k
    · subst e
      split
      · exact Nat.le_refl _
      · omega
    · have := ih j (by omega)
      split
      · show _ ≤ cntb (fun e => f e && g k e) n
        omega
      · exact this
theorem bst_le (g : Nat → Nat → Bool) (f : Nat → Bool) (n k : Nat) : (bst g f n k).2 ≤ cntb f n := by
  by_cases h : 0 < (bst g f n k).2
  · rw [← ((bst_lt g f n k).2 h).2, ← cntb_split f (g (bst g f n k).1) n]
    exact Nat.le_add_right _ _
  · omega
/-- zs are the picks of a greedy cover of f, and they cover it -/
inductive Cov (g : Nat → Nat → Bool) (n m : Nat) : (Nat → Bool) → List Int → Prop
  | done {f : Nat → Bool} (h : cntb f n = 0) : Cov g n m f []
  | step {f : Nat → Bool} {zs : List Int} (h : 0 < (bst g f n m).2) (r : Cov g n m (fun e => f e && !g (bst g f n m).1 e) zs) : Cov g n m f (((bst g f n m).1 : Int) :: zs)
theorem Cov.unique {g : Nat → Nat → Bool} {n m : Nat} {f : Nat → Bool} {a : List Int} (h : Cov g n m f a) : ∀ {b : List Int}, Cov g n m f b → a = b := by
  induction h with
  | @done f h =>
    intro b hb
    cases hb with
    | done _ => rfl
    | step h2 _ => have := bst_le g f n m; omega
  | @step f zs h r ih =>
    intro b hb
    cases hb with
    | done h2 => have := bst_le g f n m; omega
    | step _ r2 => rw [ih r2]
def gS (l : List SV) (j e : Nat) : Bool := mem (sd l j).ws e
/-- is the truth within what the sets have? -/
def uB (l : List SV) (n : Nat) (f : Nat → Bool) : Bool := (List.range n).all fun e => !f e || l.any fun s => mem s.ws e
theorem uB_iff {l : List SV} {n : Nat} {f : Nat → Bool} : uB l n f = true ↔ ∀ e, e < n → f e = true → ∃ j, j < l.length ∧ gS l j e = true := by
  unfold uB
  rw [List.all_eq_true]
  constructor
  · intro h e he hf
    have := h e (by simpa using he)
    rw [hf] at this
    simp only [Bool.not_true, Bool.false_or] at this
    obtain ⟨s, hs, h2⟩ := List.any_eq_true.1 this
    obtain ⟨j, hj, rfl⟩ := List.mem_iff_getElem.1 hs
    exact ⟨j, hj, by unfold gS; rw [sd_lt hj]; exact h2⟩
  · intro h e he
    cases hf : f e with
    | false => rfl
    | true =>
      obtain ⟨j, hj, h2⟩ := h e (by simpa using he) hf
      simp only [Bool.not_true, Bool.false_or]
      exact List.any_eq_true.2 ⟨_, sd_mem hj, h2⟩
noncomputable def covE (size : Int) (l : List SV) (s : SV) : Nat :=
  if mtB size l = false ∨ mayB s.sz s.ws = false then 61 else if size ≠ s.sz then 60 else if uB l size.toNat (mem s.ws) = false then 321 else 0
theorem ff_or (l : List SV) (e : Nat) : ∀ m, ff (fun x y => x || y) l (fun _ => false) m e = true ↔ ∃ j, j < m ∧ gS l j e = true := by
  intro m
  induction m with
  | zero => exact ⟨fun h => (by cases h), fun ⟨j, h, _⟩ => (by omega)⟩
  | succ m ih =>
    show (ff (fun x y => x || y) l (fun _ => false) m e || mem (sd l m).ws e) = true ↔ _
    rw [Bool.or_eq_true, ih]
    constructor
    · rintro (⟨j, h1, h2⟩ | h)
      · exact ⟨j, by omega, h2⟩
      · exact ⟨m, by omega, h⟩
    · rintro ⟨j, h1, h2⟩
      by_cases h : j = m
      · subst h
        exact .inr h2
      · exact .inl ⟨j, by omega, h2⟩
theorem fit_of_may {n : Nat} {s : SV} (hm : mayB s.sz s.ws = true) (hs : s.sz = (n : Int)) (hok : s.Ok) : Fit n s := by
  refine ⟨hs, ?_, hok⟩
  have hmp : MayP s.sz s.ws := by
    unfold mayB at hm
    simpa using hm
  have h1 := hmp.ws hok.lt
  have e : s.sz.toNat = n := by omega
  rw [e] at h1
  exact h1
theorem sub_uB {n : Nat} {a b : SV} {l : List SV} (ha : Fit n a) (hb : Fit n b) (hn : n ≤ 4096) (hu : Ws b.ws n (ff (fun x y => x || y) l (fun _ => false) l.length)) :
    noneB (fun x y => x && !y) a b = uB l n (mem a.ws) := by
  unfold noneB
  rw [tw_fit _ ha hb hn]
  show decide (cntb _ n = 0) = _
  rw [Bool.eq_iff_iff, uB_iff, decide_eq_true_iff]
  constructor
  · intro h e he hf
    rw [← ff_or]
    apply Decidable.byContradiction
    intro hx
    have h2 := hu.has e
    rw [Bool.eq_false_iff.2 hx, Bool.and_false] at h2
    have := cntb_pos_of (f := fun e => mem a.ws e && !mem b.ws e) he (by simp [hf, h2])
    omega
  · intro h
    refine cntb_zero fun e he => ?_
    cases hf : mem a.ws e with
    | false => rfl
    | true =>
      have h2 := hu.has e
      rw [(ff_or l e l.length).2 (h e he hf)] at h2
      simp [h2, he]
/-- some set has some of what is left -/
theorem bst_pos {l : List SV} {n : Nat} {f : Nat → Bool} (hu : uB l n f = true) (hf : 0 < cntb f n) : 0 < (bst (gS l) f n l.length).2 := by
  obtain ⟨e, he, h1⟩ := cntb_pos hf
  obtain ⟨j, hj, h2⟩ := uB_iff.1 hu e he h1
  have h3 := cntb_pos_of (f := fun e => f e && gS l j e) he (by simp [h1, h2])
  have := bst_ge (gS l) f n l.length j hj
  omega
theorem bst_none {l : List SV} {n : Nat} {f : Nat → Bool} (hf : 0 < cntb f n) (hb : (bst (gS l) f n l.length).2 = 0) : ∃ e, e < n ∧ f e = true ∧ ∀ j, j < l.length → gS l j e = false := by
  obtain ⟨e, he, h1⟩ := cntb_pos hf
  refine ⟨e, he, h1, fun j hj => ?_⟩
  apply Bool.eq_false_iff.2
  intro h2
  have h3 := cntb_pos_of (f := fun e => f e && gS l j e) he (by simp [h1, h2])
  have := bst_ge (gS l) f n l.length j hj
  omega
end Go.Proofs.Ytlmjfcieiengcaa
