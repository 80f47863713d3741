/- bitset.Next and bitset.Last: by Select and Rank. The words are words; the length is one that a slice can have; the table of math/bits lies in its variable. -/
import Derived.Test.YtlmjfcieiengcaaDoorSelect
import Derived.Deep.RegionHeld3
namespace Go.Proofs.YtlmjfcieiengcaaDoor
open Go.RowKit
theorem rk_le (sz : Int) (ws : List Nat) (e : Int) : rk sz ws e ≤ 4096 := by
  unfold rk
  split
  · rename_i h
    have hmp : MayP sz ws := by
      unfold mayB at h
      simpa using h
    have h1 := hmp.2.1
    have h2 := cnt_le ws (clp e sz.toNat)
    have h3 : clp e sz.toNat ≤ sz.toNat := by unfold clp; omega
    omega
  · omega
set_option maxRecDepth 100000 in
set_option maxHeartbeats 4000000 in
theorem next_any (sz e : Int) (A : Option Addr) (c : Nat) (ws : List Nat) (w : World) (hr : Rd w A ws) (hlt : ∀ j, wd ws j < 18446744073709551616) (hl : ws.length ≤ 9223372036854775807) (hc : ws.length ≤ c) (hT : TabOk w) :
    Calls Tryd.prog 28 #[.agg #[.int .i64 sz, .slice A ws.length c], .int .i64 e] w fun x w' => x = .returned (.int .i64 (sel sz ws (rk sz ws e : Nat))) ∧ Below w.heap.size w w' := by
  have hrk := rk_le sz ws e
  have SK : ∀ W W1 : World, (W.cell? ⟨w.heap.size, 0, none⟩ = some (.int .i64 sz) ∧ W.cell? ⟨w.heap.size, 1, none⟩ = some (.slice A ws.length c) ∧ w.heap.size < W.heap.size ∧ Below w.heap.size w W) → Below W.heap.size W W1 → (W1.cell? ⟨w.heap.size, 0, none⟩ = some (.int .i64 sz) ∧ W1.cell? ⟨w.heap.size, 1, none⟩ = some (.slice A ws.length c) ∧ w.heap.size < W1.heap.size ∧ Below w.heap.size w W1) := by
    rintro W W1 ⟨h1, h2, h3, h4⟩ hb
    exact ⟨(hb.cell (p := ⟨w.heap.size, 0, none⟩) h3).trans h1, (hb.cell (p := ⟨w.heap.size, 1, none⟩) h3).trans h2, Nat.lt_of_lt_of_le h3 hb.size, bl_t h4 hb⟩
  have SKH := Lib.hid SK
  clear SK
  have hbl0 := bl_a (Below.refl w.heap.size w) (.cells #[.int .i64 sz, .slice A ws.length c] 24)
  have hbx0 : (w.alloc (.cells #[.int .i64 sz, .slice A ws.length c] 24)).heap[w.heap.size]? = some (.cells #[.int .i64 sz, .slice A ws.length c] 24 (0, 0)) := ha_new _ _ _ rfl
  obtain ⟨p0, p1, f0, f1, hg⟩ := blk2 hbx0
  go_enter Tryd.func28, Tryd.ntmps28
  go_wp2
  go_region_held3 (fun w' => w'.cell? ⟨w.heap.size, 0, none⟩ = some (.int .i64 sz) ∧ w'.cell? ⟨w.heap.size, 1, none⟩ = some (.slice A ws.length c) ∧ w.heap.size < w'.heap.size ∧ Below w.heap.size w w') (first | exact ⟨p0, p1, hg, bl_d hbl0⟩ | exact SKH.out _ _ (by assumption) (by assumption))
    (first
      | (go_at_call 24; refine (rank_any sz e A c ws _ (hr.below (And.right (And.right (And.right (by assumption))))) hlt hl hc).mono ?_; rintro x w1 ⟨rfl, hb1⟩)
      | (go_at_call 26; refine (select_any sz _ A c ws _ (hr.below (And.right (And.right (And.right (by assumption))))) hlt hl (hT.below (And.right (And.right (And.right (by assumption))))) (by omega)).mono ?_; rintro x w1 ⟨rfl, hb1⟩))
  rename_i hH
  obtain ⟨_, _, _, hbw⟩ := hH
  go_wp2
  go_ret
  exact ⟨rfl, hbw⟩
noncomputable def las (sz : Int) (ws : List Nat) (e : Int) : Int := if e < 0 then -1 else sel sz ws ((rk sz ws (min e 4096 + 1) : Nat) - 1)
set_option maxRecDepth 100000 in
set_option maxHeartbeats 4000000 in
theorem last_any (sz e : Int) (A : Option Addr) (c : Nat) (ws : List Nat) (w : World) (hr : Rd w A ws) (hlt : ∀ j, wd ws j < 18446744073709551616) (hl : ws.length ≤ 9223372036854775807) (hc : ws.length ≤ c) (hT : TabOk w) :
    Calls Tryd.prog 29 #[.agg #[.int .i64 sz, .slice A ws.length c], .int .i64 e] w fun x w' => x = .returned (.int .i64 (las sz ws e)) ∧ Below w.heap.size w w' := by
  have hbl0 := bl_a (Below.refl w.heap.size w) (.cells #[.int .i64 sz, .slice A ws.length c] 24)
  by_cases he : e < 0
  · have HP : Hid (las sz ws e = -1) := by unfold Hid las; rw [if_pos he]
    go_enter Tryd.func29, Tryd.ntmps29
    go_wp2
    go_ret
    exact ⟨by rw [HP.out]; rfl, hbl0⟩
  · have SK : ∀ W W1 : World, (W.cell? ⟨w.heap.size, 0, none⟩ = some (.int .i64 sz) ∧ W.cell? ⟨w.heap.size, 1, none⟩ = some (.slice A ws.length c) ∧ w.heap.size < W.heap.size ∧ Below w.heap.size w W) → Below W.heap.size W W1 → (W1.cell? ⟨w.heap.size, 0, none⟩ = some (.int .i64 sz) ∧ W1.cell? ⟨w.heap.size, 1, none⟩ = some (.slice A ws.length c) ∧ w.heap.size < W1.heap.size ∧ Below w.heap.size w W1) := by
      rintro W W1 ⟨h1, h2, h3, h4⟩ hb
      exact ⟨(hb.cell (p := ⟨w.heap.size, 0, none⟩) h3).trans h1, (hb.cell (p := ⟨w.heap.size, 1, none⟩) h3).trans h2, Nat.lt_of_lt_of_le h3 hb.size, bl_t h4 hb⟩
    have SKH := Lib.hid SK
    clear SK
    have hbx0 : (w.alloc (.cells #[.int .i64 sz, .slice A ws.length c] 24)).heap[w.heap.size]? = some (.cells #[.int .i64 sz, .slice A ws.length c] 24 (0, 0)) := ha_new _ _ _ rfl
    obtain ⟨p0, p1, f0, f1, hg⟩ := blk2 hbx0
    obtain ⟨E, rfl⟩ : ∃ E : Nat, e = E := ⟨e.toNat, by omega⟩
    obtain ⟨M, hM⟩ : ∃ M : Int, M = min (E : Int) 4096 + 1 := ⟨_, rfl⟩
    have HRK := Lib.hid (fun W hW => rank_any sz M A c ws W hW hlt hl hc)
    have hrk := rk_le sz ws M
    have hlas : las sz ws E = sel sz ws ((rk sz ws M : Nat) - 1) := by unfold las; rw [if_neg he, hM]
    generalize rk sz ws M = R at HRK hrk hlas
    obtain ⟨N, hN⟩ : ∃ N : Int, N = (R : Int) - 1 := ⟨_, rfl⟩
    rw [← hN] at hlas
    have hw2 : IntKind.i64.wrap ((R : Int) - 1) = N := by rw [← hN]; exact IntWalk.i64_in _ (by omega)
    have HSE := Lib.hid (fun W hW hTW => select_any sz N A c ws W hW hlt hl hTW (by omega))
    have HP := Lib.hid hlas
    clear hlas hN hrk
    obtain ⟨X, hX⟩ : ∃ X : Int, (if (4096 : Int) < (E : Int) then (4096 : Int) else (E : Int)) = X := ⟨_, rfl⟩
    have hw1 : IntKind.i64.wrap (X + 1) = M := by
      rw [hM, show X + 1 = min (E : Int) 4096 + 1 from by rw [← hX]; split <;> omega]
      exact IntWalk.i64_in _ (by omega)
    clear hM he
    go_enter Tryd.func29, Tryd.ntmps29
    go_wp2
    go_region_held3 (fun w' => w'.cell? ⟨w.heap.size, 0, none⟩ = some (.int .i64 sz) ∧ w'.cell? ⟨w.heap.size, 1, none⟩ = some (.slice A ws.length c) ∧ w.heap.size < w'.heap.size ∧ Below w.heap.size w w') (first | exact ⟨p0, p1, hg, bl_d hbl0⟩ | exact SKH.out _ _ (by assumption) (by assumption))
      (first
        | (go_at_call 24; refine (HRK.out _ (hr.below (And.right (And.right (And.right (by assumption)))))).mono ?_; rintro x w1 ⟨rfl, hb1⟩)
        | (go_at_call 26; refine (HSE.out _ (hr.below (And.right (And.right (And.right (by assumption))))) (hT.below (And.right (And.right (And.right (by assumption)))))).mono ?_; rintro x w1 ⟨rfl, hb1⟩))
    rename_i hH
    obtain ⟨_, _, _, hbw⟩ := hH
    go_wp2
    go_ret
    exact ⟨by rw [HP.out]; rfl, hbw⟩
end Go.Proofs.YtlmjfcieiengcaaDoor
