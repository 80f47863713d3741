/- The number of ones of a word: plain: the steps of math/bits.OnesCount64 add the ones up; how many numbers of a set are below one. No condition but ranges. -/
import Derived.Test.YtlmjfcieiengcaaMay
namespace Go.Proofs.Ytlmjfcieiengcaa
open Go.RowKit
/-- the ones among the n lowest bits -/
def pop : Nat → Nat → Nat
  | 0, _ => 0
  | n + 1, x => x % 2 + pop n (x / 2)
theorem pop8 (k x : Nat) : pop (k + 8) x = pop 8 (x % 256) + pop k (x / 256) := by
  simp only [pop]
  simp only [Nat.div_div_eq_div_mul, Nat.reduceMul]
  omega
theorem p88 (x : Nat) : pop 8 x = pop 8 (x % 256) := by
  have := pop8 0 x
  simpa [pop] using this
theorem pop8_le (d : Nat) : pop 8 d ≤ 8 := by
  simp only [pop]
  omega
def rep : Nat → Nat → Nat
  | 0, _ => 0
  | n + 1, c => c + 256 * rep n c
theorem and_split (a m0 m1 : Nat) (h : m0 < 256) : a &&& (m0 + 256 * m1) = ((a % 256) &&& m0) + 256 * ((a / 256) &&& m1) := by
  have h1 := Nat.and_div_two_pow (a := a) (b := m0 + 256 * m1) (n := 8)
  have h2 := Nat.and_mod_two_pow (a := a) (b := m0 + 256 * m1) (n := 8)
  rw [show (2 : Nat) ^ 8 = 256 from rfl] at h1 h2
  rw [show (m0 + 256 * m1) / 256 = m1 from by omega] at h1
  rw [show (m0 + 256 * m1) % 256 = m0 from by omega] at h2
  rw [← h1, ← h2]
  omega
theorem and_lt128 (a b : Nat) (h : b < 128) : a % 256 &&& b = a % 128 &&& b := by
  have h1 := Nat.and_mod_two_pow (a := a % 256) (b := b) (n := 7)
  rw [show (2 : Nat) ^ 7 = 128 from rfl, Nat.mod_eq_of_lt h, Nat.mod_eq_of_lt (Nat.lt_of_le_of_lt Nat.and_le_right h)] at h1
  rw [h1]
  congr 1
  omega
theorem and_lt64 (a b : Nat) (h : b < 64) : a % 256 &&& b = a % 64 &&& b := by
  have h1 := Nat.and_mod_two_pow (a := a % 256) (b := b) (n := 6)
  rw [show (2 : Nat) ^ 6 = 64 from rfl, Nat.mod_eq_of_lt h, Nat.mod_eq_of_lt (Nat.lt_of_le_of_lt Nat.and_le_right h)] at h1
  rw [h1]
  congr 1
  omega
def f1 (d : Nat) : Nat := (d / 2 &&& 85) + (d &&& 85)
def f2 (d : Nat) : Nat := (d / 4 &&& 51) + (d &&& 51)
def f3 (d : Nat) : Nat := d / 16 + d % 16
theorem f_all : ∀ d : Fin 256, f1 d < 256 ∧ f2 (f1 d) < 256 ∧ f2 (f1 d) % 16 ≤ 4 ∧ f2 (f1 d) / 16 ≤ 4 ∧ f3 (f2 (f1 d)) = pop 8 d := by decide +kernel
def S1 (n x : Nat) : Nat := (x / 2 &&& rep n 85) + (x &&& rep n 85)
def S2 (n x : Nat) : Nat := (x / 4 &&& rep n 51) + (x &&& rep n 51)
def S3 (n x : Nat) : Nat := (x / 16 + x) &&& rep n 15
theorem S1_succ (n x : Nat) : S1 (n + 1) x = f1 (x % 256) + 256 * S1 n (x / 256) := by
  simp only [S1, rep, f1]
  rw [and_split _ _ _ (by omega), and_split _ _ _ (by omega), and_lt128 (x / 2) _ (by omega), show x / 2 % 128 = x % 256 / 2 from by omega, show x / 2 / 256 = x / 256 / 2 from by omega]
  omega
theorem S2_succ (n x : Nat) : S2 (n + 1) x = f2 (x % 256) + 256 * S2 n (x / 256) := by
  simp only [S2, rep, f2]
  rw [and_split _ _ _ (by omega), and_split _ _ _ (by omega), and_lt64 (x / 4) _ (by omega), show x / 4 % 64 = x % 256 / 4 from by omega, show x / 4 / 256 = x / 256 / 4 from by omega]
  omega
theorem S3_parts (a b c r : Nat) (ha : a ≤ 4) (hb : b ≤ 4) (hc : c ≤ 4) (x : Nat) (hx : x = a + 16 * b + 256 * c + 4096 * r) :
    (x / 16 + x) / 256 = x / 256 / 16 + x / 256 ∧ (x / 16 + x) % 256 % 16 = x % 256 / 16 + x % 256 % 16 := by
  have h1 : x / 16 = b + 16 * c + 256 * r := by omega
  have h2 : x / 256 = c + 16 * r := by omega
  have h3 : x / 256 / 16 = r := by omega
  have h4 : x % 256 = a + 16 * b := by omega
  have h5 : x / 16 + x = (a + b) + 16 * (b + c) + 256 * (c + 17 * r) := by omega
  rw [h3, h2, h4, h5]
  omega
theorem S3_succ (n x : Nat) (h1 : x % 16 ≤ 4) (h2 : x / 16 % 16 ≤ 4) (h3 : x / 256 % 16 ≤ 4) : S3 (n + 1) x = f3 (x % 256) + 256 * S3 n (x / 256) := by
  simp only [S3, rep, f3]
  have h4 := Nat.and_two_pow_sub_one_eq_mod ((x / 16 + x) % 256) 4
  rw [show (2 : Nat) ^ 4 - 1 = 15 from rfl, show (2 : Nat) ^ 4 = 16 from rfl] at h4
  have h7 : x / 16 / 16 = x / 256 := by rw [Nat.div_div_eq_div_mul]
  have h8 : x / 256 / 16 = x / 4096 := by rw [Nat.div_div_eq_div_mul]
  obtain ⟨h5, h6⟩ := S3_parts (x % 16) (x / 16 % 16) (x / 256 % 16) (x / 4096) h1 h2 h3 x (by omega)
  rw [and_split _ _ _ (by omega), h4, h5, h6]
def T (n x : Nat) : Nat := S3 n (S2 n (S1 n x))
theorem low4 (n x : Nat) : S2 n (S1 n x) % 16 ≤ 4 ∧ S2 n (S1 n x) / 16 % 16 ≤ 4 := by
  cases n with
  | zero => simp [S1, S2, rep]
  | succ n =>
    obtain ⟨h1, h2, h3, h4, _⟩ := f_all ⟨x % 256, by omega⟩
    simp only at h1 h2 h3 h4
    rw [S2_succ, S1_succ, show (f1 (x % 256) + 256 * S1 n (x / 256)) % 256 = f1 (x % 256) from by omega]
    omega
theorem T_succ (n x : Nat) : T (n + 1) x = pop 8 (x % 256) + 256 * T n (x / 256) := by
  obtain ⟨h1, h2, h3, h4, h5⟩ := f_all ⟨x % 256, by omega⟩
  simp only at h1 h2 h3 h4 h5
  obtain ⟨g1, g2⟩ := low4 (n + 1) x
  obtain ⟨g3, _⟩ := low4 n (x / 256)
  have e : S2 (n + 1) (S1 (n + 1) x) = f2 (f1 (x % 256)) + 256 * S2 n (S1 n (x / 256)) := by
    rw [S2_succ, S1_succ, show (f1 (x % 256) + 256 * S1 n (x / 256)) % 256 = f1 (x % 256) from by omega, show (f1 (x % 256) + 256 * S1 n (x / 256)) / 256 = S1 n (x / 256) from by omega]
  have e1 : S2 (n + 1) (S1 (n + 1) x) / 256 = S2 n (S1 n (x / 256)) := by rw [e]; omega
  have e2 : S2 (n + 1) (S1 (n + 1) x) % 256 = f2 (f1 (x % 256)) := by rw [e]; omega
  unfold T
  rw [S3_succ _ _ g1 g2 (by rw [e1]; exact g3), e1, e2, h5]
theorem T_zero (x : Nat) : T 0 x = 0 := by simp [T, S3, rep]
/-- the last three steps -/
theorem pop_sum (x : Nat) (z t1 t2 : Nat) (hz : z = T 8 x) (h1 : t1 = z + z / 256) (h2 : t2 = t1 + t1 / 65536) :
    z < 18446744073709551616 ∧ t1 < 18446744073709551616 ∧ t2 < 18446744073709551616 ∧ t2 + t2 / 4294967296 < 9223372036854775808 ∧ (t2 + t2 / 4294967296) % 128 = pop 64 x := by
  have e : pop 64 x = pop 8 (x % 256) + (pop 8 (x / 256 % 256) + (pop 8 (x / 65536 % 256) + (pop 8 (x / 16777216 % 256) + (pop 8 (x / 4294967296 % 256) + (pop 8 (x / 1099511627776 % 256) + (pop 8 (x / 281474976710656 % 256) + pop 8 (x / 72057594037927936 % 256))))))) := by
    have e0 := pop8 56 x
    have e1 := pop8 48 (x / 256)
    have e2 := pop8 40 (x / 256 / 256)
    have e3 := pop8 32 (x / 256 / 256 / 256)
    have e4 := pop8 24 (x / 256 / 256 / 256 / 256)
    have e5 := pop8 16 (x / 256 / 256 / 256 / 256 / 256)
    have e6 := pop8 8 (x / 256 / 256 / 256 / 256 / 256 / 256)
    have e7 := p88 (x / 256 / 256 / 256 / 256 / 256 / 256 / 256)
    simp only [Nat.div_div_eq_div_mul, Nat.reduceMul, Nat.reduceAdd] at e0 e1 e2 e3 e4 e5 e6 e7
    omega
  have f : T 8 x = pop 8 (x % 256) + 256 * (pop 8 (x / 256 % 256) + 256 * (pop 8 (x / 65536 % 256) + 256 * (pop 8 (x / 16777216 % 256) + 256 * (pop 8 (x / 4294967296 % 256) + 256 * (pop 8 (x / 1099511627776 % 256) + 256 * (pop 8 (x / 281474976710656 % 256) + 256 * pop 8 (x / 72057594037927936 % 256))))))) := by
    rw [T_succ, T_succ, T_succ, T_succ, T_succ, T_succ, T_succ, T_succ, T_zero]
    simp only [Nat.div_div_eq_div_mul, Nat.reduceMul, Nat.mul_zero, Nat.add_zero]
  rw [f] at hz
  rw [e]
  have b0 := pop8_le (x % 256)
  have b1 := pop8_le (x / 256 % 256)
  have b2 := pop8_le (x / 65536 % 256)
  have b3 := pop8_le (x / 16777216 % 256)
  have b4 := pop8_le (x / 4294967296 % 256)
  have b5 := pop8_le (x / 1099511627776 % 256)
  have b6 := pop8_le (x / 281474976710656 % 256)
  have b7 := pop8_le (x / 72057594037927936 % 256)
  clear e f
  generalize pop 8 (x % 256) = p0 at *
  generalize pop 8 (x / 256 % 256) = p1 at *
  generalize pop 8 (x / 65536 % 256) = p2 at *
  generalize pop 8 (x / 16777216 % 256) = p3 at *
  generalize pop 8 (x / 4294967296 % 256) = p4 at *
  generalize pop 8 (x / 1099511627776 % 256) = p5 at *
  generalize pop 8 (x / 281474976710656 % 256) = p6 at *
  generalize pop 8 (x / 72057594037927936 % 256) = p7 at *
  have g1 : z / 256 = p1 + 256 * (p2 + 256 * (p3 + 256 * (p4 + 256 * (p5 + 256 * (p6 + 256 * p7))))) := by omega
  have g2 : t1 = (p0 + p1) + 256 * ((p1 + p2) + 256 * ((p2 + p3) + 256 * ((p3 + p4) + 256 * ((p4 + p5) + 256 * ((p5 + p6) + 256 * ((p6 + p7) + 256 * p7)))))) := by omega
  have g3 : t1 / 65536 = (p2 + p3) + 256 * ((p3 + p4) + 256 * ((p4 + p5) + 256 * ((p5 + p6) + 256 * ((p6 + p7) + 256 * p7)))) := by omega
  have g4 : t2 = (p0 + p1 + p2 + p3) + 256 * ((p1 + p2 + p3 + p4) + 256 * ((p2 + p3 + p4 + p5) + 256 * ((p3 + p4 + p5 + p6) + 256 * ((p4 + p5 + p6 + p7) + 256 * ((p5 + p6 + p7) + 256 * ((p6 + p7) + 256 * p7)))))) := by omega
  have g5 : t2 / 4294967296 = (p4 + p5 + p6 + p7) + 256 * ((p5 + p6 + p7) + 256 * ((p6 + p7) + 256 * p7)) := by omega
  refine ⟨by omega, by omega, by omega, by omega, ?_⟩
  rw [g5]
  omega
/-! ### how many are below -/
/-- the ones among the t lowest bits, from the top -/
def ones (x : Nat) : Nat → Nat
  | 0 => 0
  | t + 1 => ones x t + (if x.testBit t then 1 else 0)
theorem ones_low (x : Nat) : ∀ t, ones x (t + 1) = x % 2 + ones (x / 2) t := by
  intro t
  induction t with
  | zero =>
    simp only [ones, Nat.testBit_zero]
    by_cases h : x % 2 = 1
    · simp [h]
    · have : x % 2 = 0 := by omega
      simp [this]
  | succ t ih =>
    rw [ones, ih, ones, Nat.testBit_succ]
    omega
theorem pop_ones : ∀ n x, pop n x = ones x n := by
  intro n
  induction n with
  | zero => intro x; rfl
  | succ n ih => intro x; rw [pop, ih, ones_low]
theorem ones_mod (x t : Nat) : ∀ k, ones (x % 2 ^ t) k = ones x (min k t) := by
  intro k
  induction k with
  | zero => simp [ones]
  | succ k ih =>
    rw [ones, ih, Nat.testBit_mod_two_pow]
    by_cases h : k < t
    · rw [show min k t = k from by omega, show min (k + 1) t = k + 1 from by omega, ones]
      simp [h]
    · rw [show min k t = t from by omega, show min (k + 1) t = t from by omega]
      simp [h]
theorem ones_le (x : Nat) : ∀ t, ones x t ≤ t := by
  intro t
  induction t with
  | zero => simp [ones]
  | succ t ih =>
    rw [ones]
    split <;> omega
/-- how many numbers below k are in the set -/
def cnt (ws : List Nat) : Nat → Nat
  | 0 => 0
  | k + 1 => cnt ws k + (if mem ws k then 1 else 0)
theorem cnt_le (ws : List Nat) : ∀ k, cnt ws k ≤ k := by
  intro k
  induction k with
  | zero => simp [cnt]
  | succ k ih => rw [cnt]; split <;> omega
theorem cnt_mono (ws : List Nat) (a : Nat) : ∀ d, cnt ws a ≤ cnt ws (a + d) := by
  intro d
  induction d with
  | zero => exact Nat.le_refl _
  | succ d ih => rw [← Nat.add_assoc, cnt]; omega
theorem cnt_le_of {ws : List Nat} {a b : Nat} (h : a ≤ b) : cnt ws a ≤ cnt ws b := by
  obtain ⟨d, rfl⟩ : ∃ d, b = a + d := ⟨b - a, by omega⟩
  exact cnt_mono ws a d
theorem cnt_word (ws : List Nat) (j : Nat) : ∀ t, t ≤ 64 → cnt ws (64 * j + t) = cnt ws (64 * j) + ones (wd ws j) t := by
  intro t
  induction t with
  | zero => intro _; rfl
  | succ t ih =>
    intro h
    rw [← Nat.add_assoc, cnt, ih (by omega), ones]
    unfold mem
    rw [show (64 * j + t) / 64 = j from by omega, show (64 * j + t) % 64 = t from by omega]
    omega
theorem cnt_next (ws : List Nat) (j : Nat) : cnt ws (64 * (j + 1)) = cnt ws (64 * j) + pop 64 (wd ws j) := by
  rw [show 64 * (j + 1) = 64 * j + 64 from by omega, cnt_word ws j 64 (Nat.le_refl _), pop_ones]
theorem cnt_part (ws : List Nat) (j t : Nat) (h : t ≤ 64) : cnt ws (64 * j + t) = cnt ws (64 * j) + pop 64 (wd ws j &&& (2 ^ t - 1)) := by
  rw [cnt_word ws j t h, pop_ones, Nat.and_two_pow_sub_one_eq_mod, ones_mod, show min 64 t = t from by omega]
theorem cnt_ge {ws : List Nat} {a b : Nat} (h : 64 * ws.length ≤ a) (hab : a ≤ b) : cnt ws b = cnt ws a := by
  obtain ⟨d, rfl⟩ : ∃ d, b = a + d := ⟨b - a, by omega⟩
  clear hab
  induction d with
  | zero => rfl
  | succ d ih => rw [← Nat.add_assoc, cnt, ih, mem_ge (by omega)]; simp
theorem cnt_mem {ws : List Nat} {e : Nat} (h : mem ws e = true) : cnt ws (e + 1) = cnt ws e + 1 := by rw [cnt, if_pos h]
theorem cnt_non {ws : List Nat} {e : Nat} (h : mem ws e = false) : cnt ws (e + 1) = cnt ws e := by rw [cnt, if_neg (by rw [h]; simp)]; rfl
theorem cnt_skip {ws : List Nat} {a b : Nat} (hab : a ≤ b) (h : ∀ e, a ≤ e → e < b → mem ws e = false) : cnt ws b = cnt ws a := by
  obtain ⟨d, rfl⟩ : ∃ d, b = a + d := ⟨b - a, by omega⟩
  clear hab
  induction d with
  | zero => rfl
  | succ d ih => rw [← Nat.add_assoc, cnt_non (h _ (by omega) (by omega)), ih fun e h1 h2 => h e h1 (by omega)]
/-- members are told by how many are below -/
theorem cnt_inj {ws : List Nat} {a b : Nat} (ha : mem ws a = true) (hb : mem ws b = true) (h : cnt ws a = cnt ws b) : a = b := by
  rcases Nat.lt_trichotomy a b with hlt | rfl | hlt
  · have h1 := cnt_mem ha
    have h2 := cnt_le_of (ws := ws) (show a + 1 ≤ b from hlt)
    omega
  · rfl
  · have h1 := cnt_mem hb
    have h2 := cnt_le_of (ws := ws) (show b + 1 ≤ a from hlt)
    omega
/-- the member with k below it, among those below N -/
def nth (ws : List Nat) (k : Nat) : Nat → Option Nat
  | 0 => none
  | n + 1 => match nth ws k n with
    | some e => some e
    | none => if mem ws n = true ∧ cnt ws n = k then some n else none
theorem nth_some {ws : List Nat} {k e : Nat} : ∀ {n}, nth ws k n = some e → e < n ∧ mem ws e = true ∧ cnt ws e = k := by
  intro n
  induction n with
  | zero => intro h; cases h
  | succ n ih =>
    intro h
    rw [nth] at h
    cases hn : nth ws k n with
    | some e' =>
      rw [hn] at h ih
      simp only at h
      obtain ⟨h1, h2⟩ := ih h
      exact ⟨by omega, h2⟩
    | none =>
      rw [hn] at h
      simp only at h
      split at h
      · rename_i hc
        injection h with h
        subst h
        exact ⟨by omega, hc⟩
      · cases h
theorem nth_none {ws : List Nat} {k : Nat} : ∀ {n}, nth ws k n = none → ∀ e, e < n → mem ws e = true → cnt ws e ≠ k := by
  intro n
  induction n with
  | zero => intro _ e he; omega
  | succ n ih =>
    intro h e he hm hc
    rw [nth] at h
    cases hn : nth ws k n with
    | some e' => rw [hn] at h; cases h
    | none =>
      rw [hn] at h
      simp only at h
      by_cases hen : e = n
      · subst hen
        rw [if_pos ⟨hm, hc⟩] at h
        cases h
      · exact ih hn e (by omega) hm hc
theorem nth_eq {ws : List Nat} {k e n : Nat} (he : e < n) (hm : mem ws e = true) (hc : cnt ws e = k) : nth ws k n = some e := by
  cases h : nth ws k n with
  | none => exact absurd hc (nth_none h e he hm)
  | some e' =>
    obtain ⟨_, h2, h3⟩ := nth_some h
    rw [cnt_inj h2 hm (by omega)]
theorem nth_none_of {ws : List Nat} {k n : Nat} (h : cnt ws n ≤ k) : nth ws k n = none := by
  cases hn : nth ws k n with
  | none => rfl
  | some e =>
    obtain ⟨h1, h2, h3⟩ := nth_some hn
    have h4 := cnt_mem h2
    have h5 := cnt_le_of (ws := ws) (show e + 1 ≤ n from h1)
    omega
theorem nth_of_lt {ws : List Nat} {k n : Nat} (h : k < cnt ws n) : ∃ e, nth ws k n = some e := by
  induction n with
  | zero => simp [cnt] at h
  | succ n ih =>
    by_cases hk : k < cnt ws n
    · obtain ⟨e, he⟩ := ih hk
      exact ⟨e, by rw [nth, he]⟩
    · rw [cnt] at h
      have hm : mem ws n = true := by
        cases hm : mem ws n with
        | true => rfl
        | false => rw [hm] at h; simp at h; omega
      rw [if_pos hm] at h
      exact ⟨n, nth_eq (by omega) hm (by omega)⟩
end Go.Proofs.Ytlmjfcieiengcaa
