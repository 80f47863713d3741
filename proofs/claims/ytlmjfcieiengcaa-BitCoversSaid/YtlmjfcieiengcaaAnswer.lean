/- What a call that gives a set answers: the set, or an error. No condition. -/
import Derived.Test.YtlmjfcieiengcaaMay
namespace Go.Proofs.Ytlmjfcieiengcaa
open Go.RowKit
/-- an answer: an error, or a set -/
inductive SA where
  | err (e : Nat)
  | set (n : Nat) (f : Nat → Bool)
def SAPost (an : SA) (w : World) (x : Ending) (w' : World) : Prop :=
  Below w.heap.size w w' ∧ match an with
  | .err e => x = .returned (.tuple #[.agg #[.int .i64 0, .slice none 0 0], .int .i64 e])
  | .set n f => ∃ g ws, x = .returned (.tuple #[.agg #[.int .i64 n, .slice (some ⟨g, 0, none⟩) ws.length ws.length], .int .i64 0]) ∧ w.heap.size ≤ g ∧ WB w' g ws ∧ Ws ws n f
def AnsW (an : SA) (z : Int) (l : List Nat) (e : Int) : Prop := match an with
  | .err k => z = 0 ∧ l = [] ∧ e = k
  | .set n f => z = n ∧ Ws l n f ∧ e = 0
theorem AnsW.unique {an : SA} {z z' e e' : Int} {l l' : List Nat} (h : AnsW an z l e) (h' : AnsW an z' l' e') : z' = z ∧ l' = l ∧ e' = e := by
  cases an with
  | err k =>
    obtain ⟨rfl, rfl, rfl⟩ := h
    exact h'
  | set n f =>
    obtain ⟨rfl, h1, rfl⟩ := h
    obtain ⟨rfl, h2, rfl⟩ := h'
    exact ⟨rfl, h2.unique h1 (fun _ _ => rfl), rfl⟩
def SA.size : SA → Nat
  | .err _ => 0
  | .set n _ => n
theorem AnsW.len {an : SA} {z e : Int} {l : List Nat} (h : AnsW an z l e) (hn : an.size ≤ 4096) : l.length ≤ 64 := by
  cases an with
  | err k =>
    obtain ⟨rfl, rfl, rfl⟩ := h
    simp
  | set n f =>
    obtain ⟨rfl, h1, rfl⟩ := h
    simp only [SA.size] at hn
    rw [h1.len, nw_eq]
    omega
theorem sapost_out {an : SA} {w w' : World} {x : Ending} (h : SAPost an w x w') : ∃ z l A e, x = .returned (.tuple #[.agg #[.int .i64 z, .slice A l.length l.length], .int .i64 e]) ∧ Rd w' A l ∧ AnsW an z l e ∧ Below w.heap.size w w' := by
  obtain ⟨hb, h⟩ := h
  cases an with
  | err k => exact ⟨0, [], none, k, h, RdK.nil _ _ _, ⟨rfl, rfl, rfl⟩, hb⟩
  | set n f =>
    obtain ⟨g, ws, hx, _, hwb, hws⟩ := h
    exact ⟨n, ws, some ⟨g, 0, none⟩, 0, hx, hwb.rd, ⟨rfl, hws, rfl⟩, hb⟩
/-- a set that has been made may be -/
theorem Ws.may {ws : List Nat} {n : Nat} {f : Nat → Bool} (h : Ws ws n f) (hn : n ≤ 4096) : MayP n ws := by
  refine ⟨by omega, by omega, h.len, fun e h1 _ => ?_⟩
  rw [h.has]
  have : ¬ e < n := by omega
  simp [this]
theorem Ws.mayB {ws : List Nat} {n : Nat} {f : Nat → Bool} (h : Ws ws n f) (hn : n ≤ 4096) : mayB n ws = true := mayB_true (h.may hn)
theorem mayP_of {sz : Int} {ws : List Nat} (h : mayB sz ws = true) : MayP sz ws := by
  unfold Go.Proofs.Ytlmjfcieiengcaa.mayB at h
  simpa using h
end Go.Proofs.Ytlmjfcieiengcaa
