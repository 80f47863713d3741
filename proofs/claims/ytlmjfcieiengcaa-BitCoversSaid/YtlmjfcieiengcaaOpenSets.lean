/- Opening a row's arguments: a []api.Set, a Table. -/
import Derived.Test.YtlmjfcieiengcaaOpen
import Derived.Test.YtlmjfcieiengcaaSetRow
import Derived.Deep.Slices
import Derived.Deep.Fields
import Derived.ChangeArms
namespace Go.Proofs.Ytlmjfcieiengcaa
open Go.ChangeShapes Go.WideShapes Go.RowKit Go.Joins Go.Deep
theorem mem_weightsAll {H : Type} {P : Program} {e : TypeId} {d : DataW H} : ∀ {l : List (DataW H)}, d ∈ l → ∀ x ∈ d.weights P e, x ∈ DataW.weightsAll P e l
  | [], h, _, _ => by cases h
  | a :: l, h, x, hx => by
    unfold DataW.weightsAll
    rcases List.mem_cons.1 h with rfl | h
    · exact List.mem_append_left _ hx
    · exact List.mem_append_right _ (mem_weightsAll h x hx)
section
variable {H : Type} {enc : TypeId × Value → H} {W : World}
set_option maxRecDepth 100000 in
theorem open_sets {fuel : Nat} {v : Value} {y : DataW H × List MemPlace} (h : DataW.trod enc Try.prog W 0 (fun _ => true) true fuel 33 [v] = some y) :
    ∃ A c ss, v = .slice A (ss : List SV).length c ∧ RdS W A ss ∧ (A = none → ss.length = 0 ∧ c = 0) ∧ ss.length ≤ c ∧ ss.length ≤ 9223372036854775807 ∧
      ((y.1.weights Try.prog 33).all (· ≤ reachBytes) = true → (∀ s ∈ ss, s.Ok) ∧ ss.length ≤ 4398046511103) := by
  rcases open_slice Try.underlying33 h with ⟨h1, h2⟩ | ⟨a, len, cap, m, n, D, Pl, h1, hb, hl, hm, hmm, hx, hel⟩
  · simp at h1
    subst h1
    exact ⟨none, 0, [], rfl, RdS.nil _ _, fun _ => ⟨rfl, rfl⟩, Nat.le_refl _, by simp, fun _ => ⟨fun s hs => (by cases hs), by simp⟩⟩
  · simp at h1
    subst h1
    have hC : Try.prog.cellsOf 24 = 2 := by kernel_rfl
    have hlm : len ≤ m := by rw [hmm]; simp; omega
    have key : ∀ i, i < len → ∃ s : SV, W.cell? (a.add (i * 2)) = some (.int .i64 s.sz) ∧ W.cell? ((a.add (i * 2)).add 1) = some (.slice s.A s.ws.length s.c) ∧ Rd W s.A s.ws ∧ (((D i).weights Try.prog 24).all (· ≤ reachBytes) = true → s.Ok) := by
      intro i hi
      obtain ⟨cs', hc, ht⟩ := hel i (by omega)
      rw [hC] at hc
      obtain ⟨_, hlen, hcell⟩ := World.cells?_some hc
      match cs', hlen with
      | [c0, c1], _ =>
        obtain ⟨y0, y1, n', hx2, _, h0, h1⟩ := trod_struct2 Try.underlying24 ht
        have h0' : DataW.trod enc Try.prog W 0 (fun _ => true) true n' 3 [c0] = some y0 := h0
        have h1' : DataW.trod enc Try.prog W 0 (fun _ => true) true n' 22 [c1] = some y1 := h1
        obtain ⟨z, hz, _⟩ := DataW.trod_int Try.underlying3 h0'
        simp at hz
        subst hz
        obtain ⟨A, c, ws, rfl, g1, g2, g3, g4, g5⟩ := open_words' h1'
        refine ⟨⟨z, A, c, ws⟩, ?_, ?_, g1, fun hw => ⟨g2, g3, g4 ?_, g5⟩⟩
        · have := hcell 0 (by omega)
          simpa [Addr.add] using this
        · exact hcell 1 (by omega)
        · simp only [Prod.mk.injEq] at hx2
          rw [hx2.1] at hw
          simp only [DataW.weights, Try.underlying24, DataW.weightsEach, List.map_cons, List.map_nil, List.append_nil, List.all_append, Bool.and_eq_true] at hw
          exact hw.2
    obtain ⟨f, hf⟩ := choose_lt key
    have hss : ((List.range len).map f).length = len := by simp
    have hsd : ∀ j, j < len → sd ((List.range len).map f) j = f j := fun j hj => by
      rw [sd_lt (by omega)]
      simp
    refine ⟨some a, cap, (List.range len).map f, by rw [hss], ?_, (fun h => by cases h), by rw [hss]; exact hl, by rw [hss]; unfold maxLen at hm; omega, ?_⟩
    · intro j hj
      rw [hss] at hj
      rw [hsd j hj]
      obtain ⟨b, off, spot⟩ := a
      have h0 := (hf 0 (by omega)).1
      have hspot : spot = none := by simpa [Addr.add] using World.cell?_spot h0
      subst hspot
      obtain ⟨e1, e2, e3, _⟩ := hf j hj
      rw [add_plain] at e1
      rw [add_plain, add_plain] at e2
      exact ⟨b, off, rfl, cell_lt e1, e1, e2, e3⟩
    · intro hwt
      rw [hx] at hwt
      simp only [DataW.weights, Try.underlying33, List.all_cons, Bool.and_eq_true, decide_eq_true_iff, List.all_append] at hwt
      have h8 : Try.prog.bytesOf 24 = 32 := by kernel_rfl
      rw [h8] at hwt
      obtain ⟨w1, w2, _⟩ := hwt
      refine ⟨fun s hs => ?_, ?_⟩
      · obtain ⟨i, hi, rfl⟩ := List.mem_map.1 hs
        refine (hf i (by simpa using hi)).2.2.2 ?_
        rw [List.all_eq_true] at w2 ⊢
        exact fun x hx => w2 x (mem_weightsAll (List.mem_map.2 ⟨i, hi, rfl⟩) x hx)
      · rw [hss]
        simp [reachBytes] at w1
        omega
set_option maxRecDepth 100000 in
theorem open_table {r : Reach} {b0 : Nat} {v : Value} {d : DataW H} {p : List MemPlace} (hv : Value.okWide Try.prog W r b0 35 v) (h : DataW.Trod enc Try.prog W 0 (fun _ => true) true 35 v d p) :
    ∃ sz A c ss, v = .agg #[.int .i64 sz, .slice A (ss : List SV).length c] ∧ RdS W A ss ∧ (A = none → ss.length = 0 ∧ c = 0) ∧ ss.length ≤ c ∧ ss.length ≤ 9223372036854775807 ∧
      ((d.weights Try.prog 35).all (· ≤ reachBytes) = true → (∀ s ∈ ss, s.Ok) ∧ ss.length ≤ 4398046511103) := by
  obtain ⟨v0, v1, y0, y1, n, rfl, rfl, rfl, h0, h1⟩ := open_agg2 Try.underlying35 (by kernel_rfl) (by kernel_rfl) hv h
  obtain ⟨z, hz, _⟩ := DataW.trod_int Try.underlying3 h0
  simp at hz
  subst hz
  obtain ⟨A, c, ss, rfl, g1, g2, g3, g4, g5⟩ := open_sets h1
  refine ⟨z, A, c, ss, rfl, g1, g2, g3, g4, fun hw => g5 ?_⟩
  simp only [DataW.weights, Try.underlying35, DataW.weightsEach, List.map_cons, List.map_nil, List.append_nil, List.all_append, Bool.and_eq_true] at hw
  exact hw.2
end
end Go.Proofs.Ytlmjfcieiengcaa
