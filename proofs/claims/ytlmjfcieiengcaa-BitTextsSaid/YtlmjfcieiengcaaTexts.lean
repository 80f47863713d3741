/- slopelaw3.BitTexts returns true for every text. No condition. -/
import Derived.Test.YtlmjfcieiengcaaRows
import Derived.Test.YtlmjfcieiengcaaRefParse
import Derived.ProofKit
import Derived.OpenShut
import Derived.ShutString
import Derived.ChangeOld
import Derived.Below
namespace Go.Proofs.Ytlmjfcieiengcaa.bitTexts
open Go.ChangeShapes Go.WideShapes Go.ChangeAt Go.RowKit
open Go.ChangeMaps (open_string shut_string)
theorem own : ownKnob Try.prog.godebug = none := by kernel_rfl
theorem laidOut : laidOutB Try.prog = true := by kernel_rfl
theorem pgo_set {n n' : Nat} {f' : Nat → Bool} : ∀ (l : List (Nat × Nat × Bool)) (prev : Option Nat) (f : Nat → Bool), pgo n prev l f = .set n' f' → n' = n := by
  intro l
  induction l with
  | nil => intro prev f h; injection h with h; exact h.symm
  | cons x l ih =>
    intro prev f h
    obtain ⟨a, v, b⟩ := x
    rw [pgo] at h
    split at h
    · cases h
    · split at h
      · cases h
      · exact ih _ _ h
theorem pspec_le {s : ByteArray} {V : Nat → Nat → Nat} {n : Nat} {f : Nat → Bool} (h : pspec s V = .set n f) : n ≤ 4096 := by
  unfold pspec at h
  split at h
  · cases h
  · split at h
    · cases h
    · cases h
    · split at h
      · cases h
      · have := pgo_set _ _ _ h
        omega
set_option maxHeartbeats 4000000 in
theorem walk (s : ByteArray) (w0 : s.size ≤ maxLen) (w : World) : Calls Try.prog 3 #[.string s] w fun x w' => x = .returned (.bool true) ∧ Below w.heap.size w w' := by
  have hs : s.size ≤ 9223372036854775807 := w0
  have hag := pspec_agree s (cv s) (rv s) (cv_rv s)
  cases hp : pspec s (cv s) with
  | err p e =>
    have h1 := fun W => parse_any s W hs
    have h2 := fun W => rparse_any s W hs
    rw [← hag, hp] at h2
    rw [hp] at h1
    have H1 := Lib.hid h1
    have H2 := Lib.hid h2
    have hsm := same_any 0 0 none none 0 0 [] []
    have HS := Lib.hid hsm
    clear h1 h2 hag hp hsm
    go_enter Try.func3, Try.ntmps3
    go_wp2_with fail
    refine (H1.out _).mono ?_
    rintro x w1 ⟨hb1, rfl⟩
    go_wp2_with fail
    refine (H2.out _).mono ?_
    rintro x w2 ⟨hb2, rfl⟩
    have hc := (hb2.block w1.heap.size (by simp)).trans (ha_new w1 _ _ rfl)
    obtain ⟨p0, p1, f0, f1, hg⟩ := blk2 hc
    have hsb : sameB 0 0 [] [] = true := by decide
    go_wp2_with (first | (go_at_call 9; refine (HS.out _ (RdK.nil _ _ _) (RdK.nil _ _ _) (by decide)).mono ?_; rintro e' w' ⟨rfl, hb3⟩) | (go_at_call 10; refine (num_any _ _).mono ?_; rintro e' w' ⟨rfl, rfl⟩))
    go_ret
    exact ⟨rfl, bl_t (bl_a (bl_t (bl_a hb1 _) hb2) _) hb3⟩
  | set n f =>
    have HN := Lib.hid (pspec_le hp)
    have h1 := fun W => parse_any s W hs
    have h2 := fun W => rparse_any s W hs
    rw [← hag, hp] at h2
    rw [hp] at h1
    have H1 := Lib.hid h1
    have H2 := Lib.hid h2
    clear h1 h2 hag hp
    go_enter Try.func3, Try.ntmps3
    go_wp2_with fail
    refine (H1.out _).mono ?_
    rintro x w1 ⟨hb1, g, ws, rfl, hwb, hws⟩
    go_wp2_with fail
    refine (H2.out _).mono ?_
    rintro x w2 ⟨hb2, g', ws', rfl, hwb', hws'⟩
    have hww : ws' = ws := hws'.unique hws (fun _ _ => rfl)
    subst hww
    have hwb2 := (hwb.alloc (.cells #[.int .i64 n, .slice (some ⟨g, 0, none⟩) ws'.length ws'.length] 24)).below hb2
    have hc := (hb2.block w1.heap.size (by simp)).trans (ha_new w1 _ _ rfl)
    obtain ⟨p0, p1, f0, f1, hg⟩ := blk2 hc
    have hsb : sameB n n ws' ws' = true := by unfold sameB; simp
    have HS := Lib.hid (fun W => same_any n n (some ⟨g, 0, none⟩) (some ⟨g', 0, none⟩) ws'.length ws'.length ws' ws' W)
    have hll : ws'.length ≤ 140737488355328 := by have := HN.out; rw [hws'.len, nw_eq]; omega
    go_wp2_with (first | (go_at_call 9; refine (HS.out _ ?h1 ?h2 hll).mono ?_; (case h1 => exact (hwb2.alloc _).rd); (case h2 => exact (hwb'.alloc _).rd); rintro e' w' ⟨rfl, hb3⟩) | (go_at_call 10; refine (num_any _ _).mono ?_; rintro e' w' ⟨rfl, rfl⟩))
    go_ret
    exact ⟨rfl, bl_t (bl_a (bl_t (bl_a hb1 _) hb2) _) hb3⟩
set_option maxRecDepth 100000 in
theorem lifted (os : Os) (started : os.Started) (H : Type) (enc : TypeId × Value → H) :
    ReturnsInHanded {} Try.checked os 3 .any (Rows.bitTextsSpec.pre6 enc Try.prog Try.f3 Rows.bitTextsRow.domain false) (Rows.bitTextsSpec.post enc Try.prog Try.f3 false true false false) := by
  refine returnsInHanded_of_change (C := Try.checked) own started (by kernel_rfl) Try.func3
    (ChangeSpec.witness6 (enc := enc) (C := Try.checked) false ⟨#[], #[.string ByteArray.empty], []⟩ 8 (by kernel_rfl) (by kernel_rfl) (by kernel_rfl) (by kernel_rfl)) ?_
  intro W base args ds gs before hval0 hW hcnd _
  have hval : ∀ (j : Nat) t v, Try.f3.params[j]? = some t → args[j]? = some v → Value.okWide Try.prog W .any base t v := hval0
  have hW' := hW
  obtain ⟨p, q, hA0, hV, rfl, hfz, hnd⟩ := hW
  have hA : DataW.TrodAll enc Try.prog W 0 (fun _ => true) true Try.f3.params.toList args.toList ds p := hA0
  rw [Try.params3] at hA hval
  obtain ⟨v0, vs0, d0, ds0, p0, q0, hargs, rfl, rfl, h0, r0⟩ := trodAll_cons hA
  obtain ⟨rfl, rfl, rfl⟩ := trodAll_nil r0
  obtain rfl : args = #[v0] := by cases args; simp_all
  obtain ⟨rfl, rfl⟩ := trodVars_none hV
  obtain ⟨a0, rfl, rfl, rfl, w0⟩ := open_string Try.underlying9 (hval 0 9 v0 rfl rfl) h0
  clear hA0 hval0
  refine (walk a0 w0 W).mono fun e W' ⟨he, bel⟩ => ?_
  subst he
  exact ⟨_, rfl, _, _, _, [], _, [], hW', trodAll_mk1 (shut_bool Try.underlying4 _), (trodAll_cons_mk (shut_string Try.underlying9 w0) trodAll_mk0), rfl, bel.frame _, fun h => by cases h⟩
theorem over : Rows.bitTextsRow.holds Try.pinned (OpenSpec.ofChange Rows.bitTextsSpec) :=
  OpenClaim.holds_of_wide 3 Try.f3 rfl rfl rfl rfl rfl rfl rfl ⟨rfl, rfl, rfl, rfl, rfl⟩ rfl rfl rfl rfl rfl (by kernel_rfl) Try.func3 (by kernel_rfl)
    (of_decide_eq_true (by kernel_rfl)) (by unfold Func.isWrapper; first | (rw [if_pos (by decide +kernel)]; kernel_rfl) | (rw [if_neg (by decide +kernel)]; exact ⟨rfl, rfl⟩))
    (fun os started H enc _ => lifted os started H enc)
theorem proved : Rows.BitTextsSaid := over
end Go.Proofs.Ytlmjfcieiengcaa.bitTexts
