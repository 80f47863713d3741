/- bitset.Range: the numbers from low on, below high. No condition. -/
import Derived.Test.YtlmjfcieiengcaaAnswer
import Derived.Test.YtlmjfcieiengcaaSmall
import Derived.Deep.DeepCutAuto
namespace Go.Proofs.Ytlmjfcieiengcaa
open Go.RowKit
def rgspec (size low high : Int) : SA := if szB size = false then .err 60 else .set size.toNat (fun e => decide (low ≤ e ∧ (e : Int) < high))
/-- the bits from a on, below b -/
def run (a b : Nat) : Nat := (2 ^ (b - a) - 1) * 2 ^ a
theorem run_bit (a b i : Nat) (h : a ≤ b) : (run a b).testBit i = decide (a ≤ i ∧ i < b) := by
  unfold run
  rw [Nat.mul_comm, Nat.testBit_two_pow_mul, Nat.testBit_two_pow_sub_one]
  by_cases h1 : a ≤ i
  · by_cases h2 : i < b
    · have : i - a < b - a := by omega
      simp [h1, h2, this]
    · have : ¬ i - a < b - a := by omega
      simp [h1, h2, this]
  · simp [h1]
theorem run_lt (a b : Nat) (h : a ≤ b) (hb : b ≤ 64) : run a b < 18446744073709551616 := by
  have h2 : (18446744073709551616 : Nat) = 2 ^ 64 := by decide
  rw [h2]
  have h3 : run a b < 2 ^ b := by
    unfold run
    rw [Nat.sub_mul, ← Nat.pow_add, show b - a + a = b from by omega]
    have := Nat.two_pow_pos b
    have := Nat.two_pow_pos a
    omega
  exact Nat.lt_of_lt_of_le h3 (Nat.pow_le_pow_right (by decide) hb)
theorem run_go (a b : Nat) (h : a < b) (hb : b ≤ 64) : IntKind.u64.wrap ((18446744073709551615 : Int) / 2 ^ (64 - (b - a)) * 2 ^ a) = (run a b : Nat) := by
  have h1 : (18446744073709551615 : Nat) / 2 ^ (64 - (b - a)) = 2 ^ (b - a) - 1 := by
    have e : (18446744073709551615 : Nat) = 2 ^ (64 - (b - a)) * (2 ^ (b - a) - 1) + (2 ^ (64 - (b - a)) - 1) := by
      have h3 : 2 ^ (64 - (b - a)) * 2 ^ (b - a) = (18446744073709551616 : Nat) := by
        rw [← Nat.pow_add, show 64 - (b - a) + (b - a) = 64 from by omega]
      have h4 := Nat.two_pow_pos (64 - (b - a))
      have h5 := Nat.two_pow_pos (b - a)
      rw [Nat.mul_sub, h3, Nat.mul_one]
      have h6 : 2 ^ (64 - (b - a)) ≤ 18446744073709551616 := by
        have : (18446744073709551616 : Nat) = 2 ^ 64 := by decide
        rw [this]
        exact Nat.pow_le_pow_right (by decide) (by omega)
      omega
    have h4 := Nat.two_pow_pos (64 - (b - a))
    rw [e, Nat.mul_add_div h4, Nat.div_eq_of_lt (show 2 ^ (64 - (b - a)) - 1 < 2 ^ (64 - (b - a)) from by omega), Nat.add_zero]
  have h2 : ((18446744073709551615 : Int) / 2 ^ (64 - (b - a)) * 2 ^ a) = ((run a b : Nat) : Int) := by
    unfold run
    rw [← h1]
    simp only [Int.natCast_mul, Int.natCast_ediv, Int.natCast_pow]
    rfl
  rw [h2, IntKind.wrap_u64]
  have := run_lt a b (by omega) hb
  omega
/-- the words up to the i-th are filled -/
def rgf (lo hi : Nat) (i : Nat) (e : Nat) : Bool := decide (e < 64 * i) && decide (lo ≤ e ∧ e < hi)
theorem rg_step {vs : List Nat} {n lo hi k a b : Nat} (h : Ws vs n (rgf lo hi k)) (hk : k < nw n) (hhn : hi ≤ n) (ha : (a : Int) = max ((lo : Int) - (k : Int) * 64) 0) (hb : (b : Int) = min ((hi : Int) - (k : Int) * 64) 64) (hab : a < b) : Ws (vs.set k (run a b)) n (rgf lo hi (k + 1)) := by
  have hkl : k < vs.length := by rw [h.len]; exact hk
  refine ⟨by rw [List.length_set, h.len], fun j => ?_, fun e => ?_⟩
  · rw [wd_set _ _ _ _ hkl]
    split
    · exact run_lt a b (by omega) (by omega)
    · exact h.lt j
  · have h1 := h.has e
    unfold mem at h1 ⊢
    rw [wd_set _ _ _ _ hkl]
    by_cases he : e / 64 = k
    · rw [if_pos he, run_bit _ _ _ (by omega), Bool.eq_iff_iff]
      unfold rgf
      simp only [decide_eq_true_iff, Bool.and_eq_true]
      omega
    · rw [if_neg he, h1]
      congr 1
      unfold rgf
      congr 1
      rw [decide_eq_decide]
      omega
theorem rg_same {vs : List Nat} {n lo hi k a : Nat} {T : Int} (h : Ws vs n (rgf lo hi k)) (ha : (a : Int) = max ((lo : Int) - (k : Int) * 64) 0) (hb : T = min ((hi : Int) - (k : Int) * 64) 64) (hab : ¬ (a : Int) < T) : Ws vs n (rgf lo hi (k + 1)) := by
  refine h.congr fun e he => ?_
  unfold rgf
  rw [Bool.eq_iff_iff]
  simp only [decide_eq_true_iff, Bool.and_eq_true]
  omega
set_option maxRecDepth 100000 in
set_option maxHeartbeats 20000000 in
theorem range_any (size low high : Int) (w : World) (hlow : low ≤ 65536) : Calls Try.prog 57 #[.int .i64 size, .int .i64 low, .int .i64 high] w (SAPost (rgspec size low high) w) := by
  have hbl0 := bl_a (Below.refl w.heap.size w) (.cells #[.int .i64 0, .slice none 0 0] 24)
  have hby0 : (w.alloc (.cells #[.int .i64 0, .slice none 0 0] 24)).heap[w.heap.size]? = some (.cells #[.int .i64 0, .slice none 0 0] 24 (0, 0)) := ha_new _ _ _ rfl
  cases hs : szB size with
  | false =>
    have HP : Hid (rgspec size low high = .err 60) := by unfold Hid rgspec; rw [if_pos hs]
    go_enter Try.func57, Try.ntmps57
    go_wp2_with (go_at_call 33; refine (sized_any size _).mono ?_; rintro e' w' ⟨rfl, rfl⟩)
    refine bodyPost_ret (res_ct rfl _ _ w.heap.size 24 #[.int .i64 0, .slice none 0 0] (0, 0) _ rfl hby0 Try.underlying24 rfl (by kernel_rfl)) rfl ?_
    rw [HP.out]
    exact ⟨hbl0, rfl⟩
  | true =>
    obtain ⟨n, rfl⟩ : ∃ n : Nat, size = n := ⟨size.toNat, by unfold szB at hs; simp at hs; omega⟩
    have hn : n ≤ 4096 := by unfold szB at hs; simp at hs; omega
    have HP : Hid (rgspec n low high = .set n (fun e => decide (low ≤ e ∧ (e : Int) < high))) := by unfold Hid rgspec; rw [if_neg (by rw [hs]; simp)]; rfl
    have HBK := Lib.hid (blank_any n (by omega) (w.alloc (.cells #[.int .i64 0, .slice none 0 0] 24)))
    obtain ⟨L, hL⟩ : ∃ L : Int, (if low < 0 then 0 else low) = L := ⟨_, rfl⟩
    have hL0 : 0 ≤ L := by rw [← hL]; split <;> omega
    obtain ⟨lo, rfl⟩ : ∃ lo : Nat, L = lo := ⟨L.toNat, by omega⟩
    obtain ⟨H, hH⟩ : ∃ H : Int, min high n = H := ⟨_, rfl⟩
    obtain ⟨hi, hhi⟩ : ∃ hi : Nat, (hi : Int) = max H 0 := ⟨(max H 0).toNat, by omega⟩
    have hhn : hi ≤ n := by omega
    have hlo : lo ≤ 65536 := by
      have : (if low < 0 then 0 else low) = (lo : Int) := hL
      split at this <;> omega
    have HF : Hid (∀ e, e < n → rgf lo hi (nw n) e = decide (low ≤ e ∧ (e : Int) < high)) := by
      intro e he
      unfold rgf
      have h1 : e < 64 * nw n := by rw [nw_eq]; omega
      have h2 : lo ≤ e ↔ low ≤ e := by
        have : (if low < 0 then 0 else low) = (lo : Int) := hL
        split at this <;> omega
      have h3 : e < hi ↔ (e : Int) < high := by omega
      simp [h1, h2, h3]
    have hH2 : (if (n : Int) < high then (n : Int) else high) = H := by rw [← hH]; split <;> omega
    have hH3 : (if H < 0 then 0 else H) = (hi : Int) := by rw [hhi]; split <;> omega
    clear hH hhi hL0
    go_enter Try.func57, Try.ntmps57
    go_wp2_with (go_at_call 33; refine (sized_any n _).mono ?_; rintro e' w' ⟨rfl, rfl⟩)
    refine HBK.out.mono ?_
    rintro x w2 ⟨g, rfl, hg0, hwb, hb2⟩
    have hby2 := (hb2.block _ (blk_lt hby0)).trans hby0
    have HW2 := Lib.hid (And.intro hg0 (And.intro hwb (And.intro hb2 hby2)))
    have hs2 : w.heap.size < w2.heap.size := blk_lt hby2
    have hgl := hwb.lt
    have hg1 : w.heap.size < g := by simp at hg0; omega
    clear hg0 hwb hb2 hby2
    obtain ⟨p0, p1, f0, f1, hg⟩ := blk2 (ha_new w2 (.cells #[.int .i64 n, .slice (some ⟨g, 0, none⟩) (nw n) (nw n)] 24) w2.heap.size rfl)
    go_wp2
    clear hL hH2 hH3 p0 p1 f0 f1 hg
    go_loopw [27] (fun i wr => ∃ (k : Nat) (vs : List Nat), i = .int .i64 k ∧ k ≤ nw n ∧ WB wr g vs ∧ Ws vs n (rgf lo hi k) ∧ wr.heap[w2.heap.size]? = some (.cells #[.int .i64 n, .slice (some ⟨g, 0, none⟩) (nw n) (nw n)] 24 (0, 0)) ∧ wr.heap[w.heap.size]? = some (.cells #[.int .i64 0, .slice none 0 0] 24 (0, 0)) ∧ Below w.heap.size w wr) (fun i _ => nw n - (intOf i).toNat)
    case atStart => exact ⟨0, _, rfl, Nat.zero_le _, HW2.out.2.1.alloc _, (Ws.empty n).congr (fun e he => by simp [rgf]), ha_new _ _ _ rfl, (ha_old _ _ _ hs2).trans HW2.out.2.2.2, bl_a (bl_t hbl0 HW2.out.2.2.1) _⟩
    case round =>
      obtain ⟨k, vs, rfl, hk, hwb, hset, hbs, hby, hbl⟩ := hrel
      obtain ⟨p0, p1, f0, f1, hg⟩ := blk2 hbs
      have hn2 : nw n ≤ 64 := by rw [nw_eq]; omega
      by_cases hlt2 : k < nw n
      · obtain ⟨a, ha⟩ : ∃ a : Nat, (a : Int) = max ((lo : Int) - (k : Int) * 64) 0 := ⟨(max ((lo : Int) - (k : Int) * 64) 0).toNat, by omega⟩
        obtain ⟨T, hT⟩ : ∃ T : Int, T = min ((hi : Int) - (k : Int) * 64) 64 := ⟨_, rfl⟩
        have x1 : (if (lo : Int) - (k : Int) * 64 < 0 then 0 else (lo : Int) - (k : Int) * 64) = (a : Int) := by rw [ha]; split <;> omega
        have x2 : (if 64 < (hi : Int) - (k : Int) * 64 then 64 else (hi : Int) - (k : Int) * 64) = T := by rw [hT]; split <;> omega
        have hT64 : T ≤ 64 := by omega
        have hTl : -8192 ≤ T := by omega
        have HAT := Lib.hid (And.intro ha hT)
        have HR := Lib.hid (And.intro hwb (And.intro hset (And.intro hbs (And.intro hby hbl))))
        have hcell := hwb.cell (j := k) (by rw [hset.len]; exact hlt2)
        have hfr := hwb.frozen k
        have hgw := hwb.lt
        clear ha hT hwb hset hbs hby hbl
        by_cases hat : (a : Int) < T
        · obtain ⟨b, rfl⟩ : ∃ b : Nat, T = b := ⟨T.toNat, by omega⟩
          have hab : a < b := by omega
          have hb64 : b ≤ 64 := by omega
          obtain ⟨d, hd⟩ : ∃ d : Nat, d = b - a := ⟨_, rfl⟩
          obtain ⟨sh, hsh⟩ : ∃ sh : Nat, sh = 64 - d := ⟨_, rfl⟩
          have hrun := run_go a b hab hb64
          rw [← hd, ← hsh] at hrun
          have HRUN := Lib.hid hrun
          have hs1 : (b : Int) - (a : Int) = (d : Int) := by omega
          have hs2' : 64 - (d : Int) = (sh : Int) := by omega
          have hd64 : d ≤ 64 := by omega
          have hsh64 : sh < 64 := by omega
          clear hrun hd hsh
          go_wp2
          go_region
          rw [HRUN.out]
          clear p0 p1 f0 f1 hg
          have hst := rg_step HR.out.2.1 hlt2 hhn HAT.out.1 HAT.out.2 hab
          have HST := Lib.hid (And.intro hst (HR.out.1.set (j := k) (by rw [HR.out.2.1.len]; exact hlt2) (run a b)))
          clear hst x1 x2
          go_wp2
          go_roundw
          case rel => exact ⟨k + 1, _, by go_num, by omega, HST.out.2, HST.out.1, (hs_other _ _ _ _ (by dsimp only; omega)).trans HR.out.2.2.1, (hs_other _ _ _ _ (by dsimp only; omega)).trans HR.out.2.2.2.1, bl_d (bl_s HR.out.2.2.2.2 (by dsimp only; omega) _)⟩
          case measure => simp [intOf]; omega
        · have hst := rg_same HR.out.2.1 HAT.out.1 HAT.out.2 hat
          have HST := Lib.hid hst
          have hat2 : T ≤ (a : Int) := by omega
          clear hst hat
          go_wp2
          go_roundw
          case rel => exact ⟨k + 1, vs, by go_num, by omega, HR.out.1, HST.out, HR.out.2.2.1, HR.out.2.2.2.1, HR.out.2.2.2.2⟩
          case measure => simp [intOf]; omega
      · obtain rfl : k = nw n := by omega
        have HR := Lib.hid (And.intro hwb (And.intro hset (And.intro hbs (And.intro hby hbl))))
        obtain ⟨q0, q1, r0, r1, hg'⟩ := blk2 hby
        clear hwb hset hbs hby hbl
        go_wp2
        refine bodyPost_ret (res_ct rfl _ _ w.heap.size 24 #[.int .i64 n, .slice (some ⟨g, 0, none⟩) (nw n) (nw n)] (0, 0) _ rfl (hs_same (hs_same HR.out.2.2.2.1 0 _) 1 _) Try.underlying24 rfl (by kernel_rfl)) rfl ?_
        rw [HP.out]
        exact ⟨bl_s (bl_s HR.out.2.2.2.2 (by simp) _) (by simp) _, g, vs, by rw [HR.out.2.1.len]; rfl, by omega, (HR.out.1.other (by simp; omega) _).other (by simp; omega) _, HR.out.2.1.congr HF.out⟩
end Go.Proofs.Ytlmjfcieiengcaa
