/- sloperef3.Rank, Select, Next answer what bitset's do. The words are words; the length is one that a slice can have. -/
import Derived.Test.YtlmjfcieiengcaaDoorRElems
import Derived.Test.YtlmjfcieiengcaaDoorAnswer
namespace Go.Proofs.YtlmjfcieiengcaaDoor
open Go.RowKit
section
variable {S : Type}
def itr (f : S → Int → S) (s0 : S) (l : List Int) : Nat → S
  | 0 => s0
  | i + 1 => f (itr f s0 l i) (zd l i)
theorem itr_append (f : S → Int → S) (s0 : S) (l xs : List Int) : ∀ i, i ≤ l.length → itr f s0 (l ++ xs) i = itr f s0 l i := by
  intro i
  induction i with
  | zero => intro _; rfl
  | succ i ih =>
    intro h
    rw [itr, itr, ih (by omega)]
    congr 1
    unfold zd
    rw [List.getD_eq_getElem?_getD, List.getElem?_append_left (by omega), ← List.getD_eq_getElem?_getD]
theorem itr_snoc (f : S → Int → S) (s0 : S) (l : List Int) (x : Int) : itr f s0 (l ++ [x]) (l.length + 1) = f (itr f s0 l l.length) x := by
  rw [itr, itr_append _ _ _ _ _ (Nat.le_refl _)]
  congr 1
  unfold zd
  rw [List.getD_eq_getElem?_getD, List.getElem?_append_right (Nat.le_refl _), Nat.sub_self]
  rfl
def full (f : S → Int → S) (s0 : S) (l : List Int) : S := itr f s0 l l.length
theorem full_lst (f : S → Int → S) (s0 : S) (ws : List Nat) (n : Nat) : full f s0 (lst ws (n + 1)) = if mem ws n = true then f (full f s0 (lst ws n)) n else full f s0 (lst ws n) := by
  rw [lst]
  split
  · unfold full
    rw [List.length_append]
    exact itr_snoc _ _ _ _
  · rfl
end
def fr (e : Int) (n : Nat) (x : Int) : Nat := if x < e then n + 1 else n
def fl (e : Int) (a x : Int) : Int := if e ≤ x ∧ a < 0 then x else a
def fm (e : Int) (a x : Int) : Int := if x ≤ e then x else a
theorem clp_hi {e : Int} {n : Nat} (h : (n : Int) ≤ e) : clp e n = n := by unfold clp; omega
theorem clp_succ {e : Int} {n : Nat} (h : e ≤ (n : Int)) : clp e (n + 1) = clp e n := by unfold clp; omega
theorem clp_le (e : Int) (n : Nat) : clp e n ≤ n := by unfold clp; omega
theorem full_rank (ws : List Nat) (e : Int) : ∀ n, full (fr e) 0 (lst ws n) = cnt ws (clp e n) := by
  intro n
  induction n with
  | zero => rw [show clp e 0 = 0 from by unfold clp; omega]; rfl
  | succ n ih =>
    rw [full_lst, ih]
    by_cases h : e ≤ (n : Int)
    · have h0 : ∀ a, fr e a (n : Int) = a := fun a => by unfold fr; rw [if_neg (by omega)]
      rw [clp_succ h, h0, ite_self]
    · have h0 : ∀ a, fr e a (n : Int) = a + 1 := fun a => by unfold fr; rw [if_pos (by omega)]
      rw [clp_hi (show ((n + 1 : Nat) : Int) ≤ e from by omega), clp_hi (show (n : Int) ≤ e from by omega), cnt, h0]
      cases mem ws n <;> rfl
theorem nth_succ_non {ws : List Nat} {k n : Nat} (h : mem ws n = false) : nth ws k (n + 1) = nth ws k n := by
  rw [nth]
  cases nth ws k n with
  | some e => rfl
  | none => simp [h]
theorem full_least (ws : List Nat) (e : Int) : ∀ n, full (fl e) (-1) (lst ws n) = oI (nth ws (cnt ws (clp e n)) n) := by
  intro n
  induction n with
  | zero => rfl
  | succ n ih =>
    rw [full_lst, ih]
    by_cases h : e ≤ (n : Int)
    · rw [clp_succ h]
      cases hm : mem ws n with
      | false => rw [if_neg (by simp), nth_succ_non hm]
      | true =>
        rw [if_pos rfl, nth]
        cases hn : nth ws (cnt ws (clp e n)) n with
        | some x =>
          show fl e (x : Int) n = (x : Int)
          unfold fl
          rw [if_neg (by omega)]
        | none =>
          have h1 : cnt ws n ≤ cnt ws (clp e n) := by
            apply Decidable.byContradiction
            intro hc
            obtain ⟨x, hx⟩ := nth_of_lt (show cnt ws (clp e n) < cnt ws n from by omega)
            rw [hn] at hx
            cases hx
          have h2 := cnt_le_of (ws := ws) (clp_le e n)
          show fl e (-1) n = oI (if mem ws n = true ∧ cnt ws n = cnt ws (clp e n) then some n else none)
          unfold fl
          rw [if_pos (by omega), if_pos ⟨hm, by omega⟩]
          rfl
    · rw [clp_hi (show ((n + 1 : Nat) : Int) ≤ e from by omega), clp_hi (show (n : Int) ≤ e from by omega), nth_none_of (Nat.le_refl _), nth_none_of (Nat.le_refl _)]
      have h0 : fl e (oI none) (n : Int) = oI none := by unfold fl; rw [if_neg (by omega)]
      rw [h0, ite_self]
def mst (ws : List Nat) (e : Int) (n : Nat) : Int := if cnt ws (clp (e + 1) n) = 0 then -1 else oI (nth ws (cnt ws (clp (e + 1) n) - 1) n)
theorem full_most (ws : List Nat) (e : Int) : ∀ n, full (fm e) (-1) (lst ws n) = mst ws e n := by
  intro n
  induction n with
  | zero => unfold mst; rw [show clp (e + 1) 0 = 0 from by unfold clp; omega]; rfl
  | succ n ih =>
    rw [full_lst, ih]
    by_cases h : (n : Int) ≤ e
    · unfold mst
      rw [clp_hi (show ((n + 1 : Nat) : Int) ≤ e + 1 from by omega), clp_hi (show (n : Int) ≤ e + 1 from by omega)]
      cases hm : mem ws n with
      | false => rw [if_neg (by simp), cnt_non hm, nth_succ_non hm]
      | true =>
        rw [if_pos rfl, cnt_mem hm, if_neg (Nat.succ_ne_zero _), nth_eq (Nat.lt_succ_self n) hm (show cnt ws n = cnt ws n + 1 - 1 from rfl)]
        unfold fm
        rw [if_pos h]
        rfl
    · have h0 : ∀ a, fm e a (n : Int) = a := fun a => by unfold fm; rw [if_neg h]
      rw [h0, ite_self]
      unfold mst
      rw [clp_succ (show e + 1 ≤ (n : Int) from by omega)]
      split
      · rfl
      · have h2 := cnt_le_of (ws := ws) (clp_le (e + 1) n)
        obtain ⟨x, hx⟩ := nth_of_lt (show cnt ws (clp (e + 1) n) - 1 < cnt ws n from by omega)
        rw [nth, hx]
theorem ref_rank (sz : Int) (ws : List Nat) (e : Int) : full (fr e) 0 (lsts sz ws) = rk sz ws e := by
  unfold lsts rk
  split
  · exact full_rank ws e _
  · rfl
theorem ref_least (sz : Int) (ws : List Nat) (e : Int) : full (fl e) (-1) (lsts sz ws) = sel sz ws (rk sz ws e : Nat) := by
  unfold lsts sel rk
  by_cases h : mayB sz ws = true
  · rw [if_pos h, if_pos h, if_pos ⟨h, by omega⟩]
    exact full_least ws e _
  · rw [if_neg h, if_neg fun hh => h hh.1]
    rfl
theorem ref_most (sz : Int) (ws : List Nat) (e : Int) : full (fm e) (-1) (lsts sz ws) = las sz ws e := by
  unfold lsts las sel rk
  by_cases h : mayB sz ws = true
  · have hmp := mayP_of h
    have h1 := hmp.1
    have h2 := hmp.2.1
    rw [if_pos h, if_pos h, full_most]
    unfold mst
    by_cases he : e < 0
    · rw [if_pos he, show clp (e + 1) sz.toNat = 0 from by unfold clp; omega]
      rfl
    · rw [if_neg he, show clp (min e 4096 + 1) sz.toNat = clp (e + 1) sz.toNat from by unfold clp; omega]
      split
      · rename_i h0
        rw [h0, if_neg (by omega)]
      · rename_i h0
        rw [if_pos ⟨h, by omega⟩]
        congr 2
        omega
  · rw [if_neg h, if_neg h]
    by_cases he : e < 0
    · rw [if_pos he]
      rfl
    · rw [if_neg he, if_neg fun hh => h hh.1]
      rfl
theorem ref_sel (sz : Int) (ws : List Nat) (k : Int) : sel sz ws k = if 0 ≤ k ∧ k < (lsts sz ws).length then zd (lsts sz ws) k.toNat else -1 := by
  unfold lsts sel
  by_cases h : mayB sz ws = true
  · rw [if_pos h]
    by_cases hk : 0 ≤ k
    · rw [if_pos ⟨h, hk⟩, lst_length]
      by_cases hl : k < cnt ws sz.toNat
      · rw [if_pos ⟨hk, hl⟩]
        obtain ⟨e, h1, h2⟩ := lst_get ws sz.toNat k.toNat (by omega)
        rw [h1, h2]
        rfl
      · rw [if_neg fun hh => hl hh.2, nth_none_of (by omega)]
        rfl
    · rw [if_neg fun hh => hk hh.2, if_neg fun hh => hk hh.1]
  · rw [if_neg fun hh => h hh.1, if_neg h, if_neg (by rintro ⟨h1, h2⟩; simp at h2; omega)]
theorem lsts_le (sz : Int) (ws : List Nat) : (lsts sz ws).length ≤ 4096 := by
  unfold lsts
  split
  · rename_i h
    have h1 := (mayP_of h).2.1
    have h2 := lst_le ws sz.toNat
    omega
  · simp
set_option maxRecDepth 100000 in
set_option maxHeartbeats 4000000 in
theorem rrank_any (sz e : Int) (A : Option Addr) (c : Nat) (ws : List Nat) (w : World) (hr : Rd w A ws) (hlt : ∀ j, wd ws j < 18446744073709551616) (hl : ws.length ≤ 9223372036854775807) :
    Calls Tryd.prog 25 #[.agg #[.int .i64 sz, .slice A ws.length c], .int .i64 e] w fun x w' => x = .returned (.int .i64 (rk sz ws e : Nat)) ∧ Below w.heap.size w w' := by
  have HEL := Lib.hid (fun W hW => relem_any sz A c ws W hW hlt hl)
  have hbl0 := bl_a (Below.refl w.heap.size w) (.cells #[.int .i64 sz, .slice A ws.length c] 24)
  have hlen := lsts_le sz ws
  have HP := Lib.hid (ref_rank sz ws e)
  generalize lsts sz ws = l at HEL hlen HP
  go_enter Tryd.func25, Tryd.ntmps25
  go_wp2_with fail
  refine (HEL.out _ (hr.below hbl0)).mono ?_
  rintro x w1 ⟨A', c', rfl, hc', hrd, hA', _, hb1⟩
  have hbl1 := bl_t hbl0 hb1
  go_wp2
  go_loop [6, 7] (fun n i => ∃ j : Nat, j ≤ l.length ∧ i = .int .i64 j ∧ n = .int .i64 (itr (fr e) 0 l j : Nat) ∧ itr (fr e) 0 l j ≤ j) (fun _ i => l.length - (intOf i).toNat)
  case atStart => exact ⟨0, Nat.zero_le _, rfl, rfl, Nat.le_refl _⟩
  case round =>
    obtain ⟨j, hj, rfl, rfl, hle⟩ := hrel
    by_cases hlt2 : j < l.length
    · obtain ⟨b, off, rfl, hblt, hcell⟩ := hrd j hlt2
      have hs : itr (fr e) 0 l (j + 1) = fr e (itr (fr e) 0 l j) (zd l j) := rfl
      generalize zd l j = Y at hcell hs
      by_cases hY : Y < e
      · have HS : Hid (itr (fr e) 0 l (j + 1) = itr (fr e) 0 l j + 1) := by unfold Hid; rw [hs]; unfold fr; rw [if_pos hY]
        clear hs
        go_wp2
        go_round
        case rel => exact ⟨j + 1, by omega, by go_num, by rw [HS.out]; go_num, by rw [HS.out]; omega⟩
        case measure => simp [intOf]; omega
      · have HS : Hid (itr (fr e) 0 l (j + 1) = itr (fr e) 0 l j) := by unfold Hid; rw [hs]; unfold fr; rw [if_neg hY]
        have hY2 : e ≤ Y := by omega
        clear hs hY
        go_wp2
        go_round
        case rel => exact ⟨j + 1, by omega, by go_num, by rw [HS.out], by rw [HS.out]; omega⟩
        case measure => simp [intOf]; omega
    · obtain rfl : j = l.length := by omega
      go_wp2
      go_ret
      refine ⟨?_, hbl1⟩
      rw [← HP.out]
      rfl
set_option maxRecDepth 100000 in
set_option maxHeartbeats 4000000 in
theorem rselect_any (sz k : Int) (A : Option Addr) (c : Nat) (ws : List Nat) (w : World) (hr : Rd w A ws) (hlt : ∀ j, wd ws j < 18446744073709551616) (hl : ws.length ≤ 9223372036854775807) :
    Calls Tryd.prog 27 #[.agg #[.int .i64 sz, .slice A ws.length c], .int .i64 k] w fun x w' => x = .returned (.int .i64 (sel sz ws k)) ∧ Below w.heap.size w w' := by
  have HEL := Lib.hid (fun W hW => relem_any sz A c ws W hW hlt hl)
  have hbl0 := bl_a (Below.refl w.heap.size w) (.cells #[.int .i64 sz, .slice A ws.length c] 24)
  have hlen := lsts_le sz ws
  have HP := Lib.hid (ref_sel sz ws k)
  generalize lsts sz ws = l at HEL hlen HP
  by_cases hk : 0 ≤ k
  · obtain ⟨K, rfl⟩ : ∃ K : Nat, k = K := ⟨k.toNat, by omega⟩
    by_cases hK : K < l.length
    · have HQ : Hid (sel sz ws K = zd l K) := by unfold Hid; rw [HP.out, if_pos ⟨hk, by omega⟩]; rfl
      clear hk
      go_enter Tryd.func27, Tryd.ntmps27
      go_wp2_with fail
      refine (HEL.out _ (hr.below hbl0)).mono ?_
      rintro x w1 ⟨A', c', rfl, hc', hrd, hA', _, hb1⟩
      obtain ⟨b, off, rfl, hblt, hcell⟩ := hrd K hK
      go_wp2
      go_ret
      exact ⟨by rw [HQ.out]; rfl, bl_t hbl0 hb1⟩
    · have HQ : Hid (sel sz ws K = -1) := by unfold Hid; rw [HP.out, if_neg fun hh => hK (by omega)]
      have hK2 : l.length ≤ K := by omega
      clear hk hK
      go_enter Tryd.func27, Tryd.ntmps27
      go_wp2_with fail
      refine (HEL.out _ (hr.below hbl0)).mono ?_
      rintro x w1 ⟨A', c', rfl, hc', hrd, hA', _, hb1⟩
      go_wp2
      go_ret
      exact ⟨by rw [HQ.out]; rfl, bl_t hbl0 hb1⟩
  · have HQ : Hid (sel sz ws k = -1) := by unfold Hid; rw [HP.out, if_neg fun hh => hk hh.1]
    have hk2 : k < 0 := by omega
    clear hk
    go_enter Tryd.func27, Tryd.ntmps27
    go_wp2_with fail
    refine (HEL.out _ (hr.below hbl0)).mono ?_
    rintro x w1 ⟨A', c', rfl, hc', hrd, hA', _, hb1⟩
    go_wp2
    go_ret
    exact ⟨by rw [HQ.out]; rfl, bl_t hbl0 hb1⟩
set_option maxRecDepth 100000 in
set_option maxHeartbeats 4000000 in
theorem rnext_any (sz e : Int) (A : Option Addr) (c : Nat) (ws : List Nat) (w : World) (hr : Rd w A ws) (hlt : ∀ j, wd ws j < 18446744073709551616) (hl : ws.length ≤ 9223372036854775807) :
    Calls Tryd.prog 23 #[.agg #[.int .i64 sz, .slice A ws.length c], .int .i64 e] w fun x w' => x = .returned (.tuple #[.int .i64 (sel sz ws (rk sz ws e : Nat)), .int .i64 (las sz ws e)]) ∧ Below w.heap.size w w' := by
  have HEL := Lib.hid (fun W hW => relem_any sz A c ws W hW hlt hl)
  have hbl0 := bl_a (Below.refl w.heap.size w) (.cells #[.int .i64 sz, .slice A ws.length c] 24)
  have hlen := lsts_le sz ws
  have HP := Lib.hid (And.intro (ref_least sz ws e) (ref_most sz ws e))
  generalize lsts sz ws = l at HEL hlen HP
  go_enter Tryd.func23, Tryd.ntmps23
  go_wp2_with fail
  refine (HEL.out _ (hr.below hbl0)).mono ?_
  rintro x w1 ⟨A', c', rfl, hc', hrd, hA', _, hb1⟩
  have hbl1 := bl_t hbl0 hb1
  go_wp2
  go_loop [7, 8, 9] (fun a b i => ∃ j : Nat, j ≤ l.length ∧ i = .int .i64 j ∧ a = .int .i64 (itr (fl e) (-1) l j) ∧ b = .int .i64 (itr (fm e) (-1) l j)) (fun _ _ i => l.length - (intOf i).toNat)
  case atStart => exact ⟨0, Nat.zero_le _, rfl, rfl, rfl⟩
  case round =>
    obtain ⟨j, hj, rfl, rfl, rfl⟩ := hrel
    by_cases hlt2 : j < l.length
    · obtain ⟨b, off, rfl, hblt, hcell⟩ := hrd j hlt2
      have hs : itr (fl e) (-1) l (j + 1) = fl e (itr (fl e) (-1) l j) (zd l j) := rfl
      have ht : itr (fm e) (-1) l (j + 1) = fm e (itr (fm e) (-1) l j) (zd l j) := rfl
      have HS := Lib.hid (And.intro hs ht)
      clear hs ht
      generalize itr (fl e) (-1) l j = X at HS ⊢
      generalize itr (fm e) (-1) l j = Z at HS ⊢
      generalize zd l j = Y at hcell HS
      by_cases hY : e ≤ Y
      · by_cases hX : X < 0
        · by_cases hYe : Y ≤ e
          · go_wp2
            go_round
            case rel => exact ⟨j + 1, by omega, by go_num, by rw [HS.out.1]; unfold fl; rw [if_pos ⟨hY, hX⟩], by rw [HS.out.2]; unfold fm; rw [if_pos hYe]⟩
            case measure => simp [intOf]; omega
          · have hYe2 : e < Y := by omega
            go_wp2
            go_round
            case rel => exact ⟨j + 1, by omega, by go_num, by rw [HS.out.1]; unfold fl; rw [if_pos ⟨hY, hX⟩], by rw [HS.out.2]; unfold fm; rw [if_neg hYe]⟩
            case measure => simp [intOf]; omega
        · have hX2 : 0 ≤ X := by omega
          by_cases hYe : Y ≤ e
          · go_wp2
            go_round
            case rel => exact ⟨j + 1, by omega, by go_num, by rw [HS.out.1]; unfold fl; rw [if_neg fun hh => hX hh.2], by rw [HS.out.2]; unfold fm; rw [if_pos hYe]⟩
            case measure => simp [intOf]; omega
          · have hYe2 : e < Y := by omega
            go_wp2
            go_round
            case rel => exact ⟨j + 1, by omega, by go_num, by rw [HS.out.1]; unfold fl; rw [if_neg fun hh => hX hh.2], by rw [HS.out.2]; unfold fm; rw [if_neg hYe]⟩
            case measure => simp [intOf]; omega
      · have hY2 : Y < e := by omega
        have hYe : Y ≤ e := by omega
        go_wp2
        go_round
        case rel => exact ⟨j + 1, by omega, by go_num, by rw [HS.out.1]; unfold fl; rw [if_neg fun hh => hY hh.1], by rw [HS.out.2]; unfold fm; rw [if_pos hYe]⟩
        case measure => simp [intOf]; omega
    · obtain rfl : j = l.length := by omega
      go_wp2
      go_ret2
      refine ⟨?_, hbl1⟩
      rw [← HP.out.1, ← HP.out.2]
      rfl
end Go.Proofs.YtlmjfcieiengcaaDoor
