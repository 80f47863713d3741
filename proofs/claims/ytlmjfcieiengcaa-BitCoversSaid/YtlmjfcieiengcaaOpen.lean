/- Opening a row's arguments: a slice of words, a Set, a slice of ints; their length bounds out of the reach. -/
import Derived.Test.YtlmjfcieiengcaaRows
import Derived.Test.YtlmjfcieiengcaaInts
import Derived.OpenShut
import Derived.ChangeOld
import Derived.Lib.SmallJoins
namespace Go.Proofs.Ytlmjfcieiengcaa
open Go.ChangeShapes Go.WideShapes Go.RowKit Go.Joins
theorem cell_lt {W : World} {b o : Nat} {v : Value} (h : W.cell? ⟨b, o, none⟩ = some v) : b < W.heap.size := by
  apply Decidable.byContradiction
  intro hn
  rw [World.cell?, Array.getElem?_eq_none (by simp; omega)] at h
  simp at h
section
variable {H : Type} {enc : TypeId × Value → H} {W : World}
theorem open_words {fuel : Nat} {v : Value} {y : DataW H × List MemPlace} (h : DataW.trod enc Try.prog W 0 (fun _ => true) true fuel 22 [v] = some y) :
    ∃ A c ws, v = .slice A (ws : List Nat).length c ∧ Rd W A ws ∧ (∀ j, wd ws j < 18446744073709551616) ∧ (A = none → ws.length = 0 ∧ c = 0) ∧ ((y.1.weights Try.prog 22).all (· ≤ reachBytes) = true → ws.length ≤ 17592186044415) := by
  rcases open_ints Try.underlying22 Try.underlying75 (by kernel_rfl) h with ⟨h1, h2⟩ | ⟨a, len, cap, zs, h1, _, hl, hm, hz, hx, hcell, hwf⟩
  · simp at h1
    subst h1
    exact ⟨none, 0, [], rfl, RdK.nil _ _ _, fun j => by simp [wd], fun _ => ⟨rfl, rfl⟩, fun _ => by simp⟩
  · simp at h1
    subst h1
    simp at hz
    have hzs : ∀ j, j < zs.length → 0 ≤ zs.getD j 0 ∧ zs.getD j 0 < 18446744073709551616 := by
      intro j hj
      have hmem : zs.getD j 0 ∈ zs := by
        rw [List.getD_eq_getElem?_getD, List.getElem?_eq_getElem hj]
        exact List.getElem_mem _
      have := hwf _ hmem
      generalize zs.getD j 0 = q at this ⊢
      simp [Lit.wf, IntKind.min, IntKind.max, IntKind.signed, IntKind.bits] at this
      omega
    have hlen : ((zs.take len).map Int.toNat).length = len := by simp; omega
    have hwd : ∀ j, j < len → ((wd ((zs.take len).map Int.toNat) j : Nat) : Int) = zs.getD j 0 := by
      intro j hj
      have h1 : j < ((zs.take len).map Int.toNat).length := by omega
      rw [wd_lt h1]
      simp only [List.getElem_map, List.getElem_take]
      have := (hzs j (by omega)).1
      rw [List.getD_eq_getElem?_getD, List.getElem?_eq_getElem (by omega)] at this ⊢
      simp only [Option.getD_some] at this ⊢
      omega
    refine ⟨some a, cap, (zs.take len).map Int.toNat, by rw [hlen], ?_, ?_, (fun h => by cases h), ?_⟩
    · intro j hj
      rw [hlen] at hj
      obtain ⟨b, off, rfl, hc⟩ := ints_at hcell (by omega)
      refine ⟨b, off, rfl, ?_, ?_⟩
      · exact cell_lt (hc j (by omega))
      · rw [hc j (by omega), hwd j hj]
    · intro j
      by_cases hj : j < len
      · have h1 := hwd j hj
        have h2 := (hzs j (by omega)).2
        omega
      · rw [wd_ge (by omega)]
        decide
    · intro hwt
      rw [hlen]
      rw [hx] at hwt
      simp only [DataW.weights, Try.underlying22, List.all_cons, Bool.and_eq_true, decide_eq_true_iff] at hwt
      have h8 : Try.prog.bytesOf 75 = 8 := by kernel_rfl
      rw [h8] at hwt
      have := hwt.1
      simp [reachBytes, lits] at this
      omega
theorem open_zs {fuel : Nat} {v : Value} {y : DataW H × List MemPlace} (h : DataW.trod enc Try.prog W 0 (fun _ => true) true fuel 38 [v] = some y) :
    ∃ A c zs, v = .slice A (zs : List Int).length c ∧ RdI W A zs ∧ (∀ j, -9223372036854775808 ≤ zd zs j ∧ zd zs j ≤ 9223372036854775807) ∧ (A = none → zs.length = 0 ∧ c = 0) ∧ ((y.1.weights Try.prog 38).all (· ≤ reachBytes) = true → zs.length ≤ 17592186044415) := by
  rcases open_ints Try.underlying38 Try.underlying3 (by kernel_rfl) h with ⟨h1, h2⟩ | ⟨a, len, cap, zs, h1, _, hl, hm, hz, hx, hcell, hwf⟩
  · simp at h1
    subst h1
    exact ⟨none, 0, [], rfl, RdI.nil _ _, fun j => by simp [zd], fun _ => ⟨rfl, rfl⟩, fun _ => by simp⟩
  · simp at h1
    subst h1
    simp at hz
    have hlen : (zs.take len).length = len := by simp; omega
    have hzd : ∀ j, j < len → zd (zs.take len) j = zs.getD j 0 := by
      intro j hj
      rw [zd_lt (by omega), List.getElem_take, List.getD_eq_getElem?_getD, List.getElem?_eq_getElem (by omega)]
      rfl
    refine ⟨some a, cap, zs.take len, by rw [hlen], ?_, ?_, (fun h => by cases h), ?_⟩
    · intro j hj
      rw [hlen] at hj
      obtain ⟨b, off, rfl, hc⟩ := ints_at hcell (by omega)
      exact ⟨b, off, rfl, cell_lt (hc j (by omega)), by rw [hc j (by omega), hzd j hj]⟩
    · intro j
      by_cases hj : j < len
      · rw [hzd j hj]
        have hmem : zs.getD j 0 ∈ zs := by
          rw [List.getD_eq_getElem?_getD, List.getElem?_eq_getElem (by omega)]
          exact List.getElem_mem _
        have := hwf _ hmem
        generalize zs.getD j 0 = q at this ⊢
        simp [Lit.wf, IntKind.min, IntKind.max, IntKind.signed, IntKind.bits] at this
        omega
      · rw [zd_ge (by omega)]
        decide
    · intro hwt
      rw [hlen]
      rw [hx] at hwt
      simp only [DataW.weights, Try.underlying38, List.all_cons, Bool.and_eq_true, decide_eq_true_iff] at hwt
      have h8 : Try.prog.bytesOf 3 = 8 := by kernel_rfl
      rw [h8] at hwt
      have := hwt.1
      simp [reachBytes, lits] at this
      omega
set_option maxRecDepth 100000 in
theorem open_set {r : Reach} {b0 : Nat} {v : Value} {d : DataW H} {p : List MemPlace} (hv : Value.okWide Try.prog W r b0 24 v) (h : DataW.Trod enc Try.prog W 0 (fun _ => true) true 24 v d p) :
    ∃ sz A c ws, v = .agg #[.int .i64 sz, .slice A (ws : List Nat).length c] ∧ Rd W A ws ∧ (∀ j, wd ws j < 18446744073709551616) ∧ (A = none → ws.length = 0 ∧ c = 0) ∧ ((d.weights Try.prog 24).all (· ≤ reachBytes) = true → ws.length ≤ 17592186044415) := by
  obtain ⟨v0, v1, y0, y1, n, rfl, rfl, rfl, h0, h1⟩ := open_agg2 Try.underlying24 (by kernel_rfl) (by kernel_rfl) hv h
  obtain ⟨z, hz, _⟩ := DataW.trod_int Try.underlying3 h0
  simp at hz
  subst hz
  obtain ⟨A, c, ws, rfl, g1, g2, g3, g4⟩ := open_words h1
  refine ⟨z, A, c, ws, rfl, g1, g2, g3, fun hw => g4 ?_⟩
  simp only [DataW.weights, Try.underlying24, DataW.weightsEach, List.map_cons, List.map_nil, List.append_nil, List.all_append, Bool.and_eq_true] at hw
  exact hw.2
theorem open_words' {fuel : Nat} {v : Value} {y : DataW H × List MemPlace} (h : DataW.trod enc Try.prog W 0 (fun _ => true) true fuel 22 [v] = some y) :
    ∃ A c ws, v = .slice A (ws : List Nat).length c ∧ Rd W A ws ∧ (∀ j, wd ws j < 18446744073709551616) ∧ (A = none → ws.length = 0 ∧ c = 0) ∧ ((y.1.weights Try.prog 22).all (· ≤ reachBytes) = true → ws.length ≤ 17592186044415) ∧ ws.length ≤ c := by
  rcases open_ints Try.underlying22 Try.underlying75 (by kernel_rfl) h with ⟨h1, h2⟩ | ⟨a, len, cap, zs, h1, _, hl, hm, hz, hx, hcell, hwf⟩
  · simp at h1
    subst h1
    exact ⟨none, 0, [], rfl, RdK.nil _ _ _, fun j => by simp [wd], fun _ => ⟨rfl, rfl⟩, fun _ => by simp, Nat.le_refl _⟩
  · simp at h1
    subst h1
    simp at hz
    have hzs : ∀ j, j < zs.length → 0 ≤ zs.getD j 0 ∧ zs.getD j 0 < 18446744073709551616 := by
      intro j hj
      have hmem : zs.getD j 0 ∈ zs := by
        rw [List.getD_eq_getElem?_getD, List.getElem?_eq_getElem hj]
        exact List.getElem_mem _
      have := hwf _ hmem
      generalize zs.getD j 0 = q at this ⊢
      simp [Lit.wf, IntKind.min, IntKind.max, IntKind.signed, IntKind.bits] at this
      omega
    have hlen : ((zs.take len).map Int.toNat).length = len := by simp; omega
    have hwd : ∀ j, j < len → ((wd ((zs.take len).map Int.toNat) j : Nat) : Int) = zs.getD j 0 := by
      intro j hj
      have h1 : j < ((zs.take len).map Int.toNat).length := by omega
      rw [wd_lt h1]
      simp only [List.getElem_map, List.getElem_take]
      have := (hzs j (by omega)).1
      rw [List.getD_eq_getElem?_getD, List.getElem?_eq_getElem (by omega)] at this ⊢
      simp only [Option.getD_some] at this ⊢
      omega
    refine ⟨some a, cap, (zs.take len).map Int.toNat, by rw [hlen], ?_, ?_, (fun h => by cases h), ?_, by rw [hlen]; exact hl⟩
    · intro j hj
      rw [hlen] at hj
      obtain ⟨b, off, rfl, hc⟩ := ints_at hcell (by omega)
      refine ⟨b, off, rfl, ?_, ?_⟩
      · exact cell_lt (hc j (by omega))
      · rw [hc j (by omega), hwd j hj]
    · intro j
      by_cases hj : j < len
      · have h1 := hwd j hj
        have h2 := (hzs j (by omega)).2
        omega
      · rw [wd_ge (by omega)]
        decide
    · intro hwt
      rw [hlen]
      rw [hx] at hwt
      simp only [DataW.weights, Try.underlying22, List.all_cons, Bool.and_eq_true, decide_eq_true_iff] at hwt
      have h8 : Try.prog.bytesOf 75 = 8 := by kernel_rfl
      rw [h8] at hwt
      have := hwt.1
      simp [reachBytes, lits] at this
      omega
set_option maxRecDepth 100000 in
theorem open_set' {r : Reach} {b0 : Nat} {v : Value} {d : DataW H} {p : List MemPlace} (hv : Value.okWide Try.prog W r b0 24 v) (h : DataW.Trod enc Try.prog W 0 (fun _ => true) true 24 v d p) :
    ∃ sz A c ws, v = .agg #[.int .i64 sz, .slice A (ws : List Nat).length c] ∧ Rd W A ws ∧ (∀ j, wd ws j < 18446744073709551616) ∧ (A = none → ws.length = 0 ∧ c = 0) ∧ ((d.weights Try.prog 24).all (· ≤ reachBytes) = true → ws.length ≤ 17592186044415) ∧ ws.length ≤ c := by
  obtain ⟨v0, v1, y0, y1, n, rfl, rfl, rfl, h0, h1⟩ := open_agg2 Try.underlying24 (by kernel_rfl) (by kernel_rfl) hv h
  obtain ⟨z, hz, _⟩ := DataW.trod_int Try.underlying3 h0
  simp at hz
  subst hz
  obtain ⟨A, c, ws, rfl, g1, g2, g3, g4, g5⟩ := open_words' h1
  refine ⟨z, A, c, ws, rfl, g1, g2, g3, fun hw => g4 ?_, g5⟩
  simp only [DataW.weights, Try.underlying24, DataW.weightsEach, List.map_cons, List.map_nil, List.append_nil, List.all_append, Bool.and_eq_true] at hw
  exact hw.2
theorem open_zs' {fuel : Nat} {v : Value} {y : DataW H × List MemPlace} (h : DataW.trod enc Try.prog W 0 (fun _ => true) true fuel 38 [v] = some y) :
    ∃ A c zs, v = .slice A (zs : List Int).length c ∧ RdI W A zs ∧ (∀ j, -9223372036854775808 ≤ zd zs j ∧ zd zs j ≤ 9223372036854775807) ∧ (A = none → zs.length = 0 ∧ c = 0) ∧ ((y.1.weights Try.prog 38).all (· ≤ reachBytes) = true → zs.length ≤ 17592186044415) ∧ zs.length ≤ 9223372036854775807 := by
  rcases open_ints Try.underlying38 Try.underlying3 (by kernel_rfl) h with ⟨h1, h2⟩ | ⟨a, len, cap, zs, h1, _, hl, hm, hz, hx, hcell, hwf⟩
  · simp at h1
    subst h1
    exact ⟨none, 0, [], rfl, RdI.nil _ _, fun j => by simp [zd], fun _ => ⟨rfl, rfl⟩, fun _ => by simp, by simp⟩
  · simp at h1
    subst h1
    simp at hz
    have hlen : (zs.take len).length = len := by simp; omega
    have hzd : ∀ j, j < len → zd (zs.take len) j = zs.getD j 0 := by
      intro j hj
      rw [zd_lt (by omega), List.getElem_take, List.getD_eq_getElem?_getD, List.getElem?_eq_getElem (by omega)]
      rfl
    refine ⟨some a, cap, zs.take len, by rw [hlen], ?_, ?_, (fun h => by cases h), ?_, by unfold maxLen at hm; omega⟩
    · intro j hj
      rw [hlen] at hj
      obtain ⟨b, off, rfl, hc⟩ := ints_at hcell (by omega)
      exact ⟨b, off, rfl, cell_lt (hc j (by omega)), by rw [hc j (by omega), hzd j hj]⟩
    · intro j
      by_cases hj : j < len
      · rw [hzd j hj]
        have hmem : zs.getD j 0 ∈ zs := by
          rw [List.getD_eq_getElem?_getD, List.getElem?_eq_getElem (by omega)]
          exact List.getElem_mem _
        have := hwf _ hmem
        generalize zs.getD j 0 = q at this ⊢
        simp [Lit.wf, IntKind.min, IntKind.max, IntKind.signed, IntKind.bits] at this
        omega
      · rw [zd_ge (by omega)]
        decide
    · intro hwt
      rw [hlen]
      rw [hx] at hwt
      simp only [DataW.weights, Try.underlying38, List.all_cons, Bool.and_eq_true, decide_eq_true_iff] at hwt
      have h8 : Try.prog.bytesOf 3 = 8 := by kernel_rfl
      rw [h8] at hwt
      have := hwt.1
      simp [reachBytes, lits] at this
      omega
end
end Go.Proofs.Ytlmjfcieiengcaa
