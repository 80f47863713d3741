/- Rows of sets: read; and bitset.fit. The words are words. -/
import Derived.Test.YtlmjfcieiengcaaAnswer
import Derived.Test.YtlmjfcieiengcaaTwin
namespace Go.Proofs.Ytlmjfcieiengcaa
open Go.RowKit
/-- a set as it lies in memory -/
structure SV where
  sz : Int
  A : Option Addr
  c : Nat
  ws : List Nat
instance : Inhabited SV := ⟨⟨0, none, 0, []⟩⟩
structure SV.Ok (s : SV) : Prop where
  lt : ∀ j, wd s.ws j < 18446744073709551616
  nil : s.A = none → s.ws.length = 0 ∧ s.c = 0
  len : s.ws.length ≤ 17592186044415
  cap : s.ws.length ≤ s.c
def SV.val (s : SV) : Value := .agg #[.int .i64 s.sz, .slice s.A s.ws.length s.c]
def sd (l : List SV) (j : Nat) : SV := l.getD j default
theorem sd_lt {l : List SV} {j : Nat} (h : j < l.length) : sd l j = l[j] := by
  unfold sd
  rw [List.getD_eq_getElem?_getD, List.getElem?_eq_getElem h]
  rfl
theorem sd_mem {l : List SV} {j : Nat} (h : j < l.length) : sd l j ∈ l := by rw [sd_lt h]; exact List.getElem_mem _
def RdS (w : World) (B : Option Addr) (l : List SV) : Prop :=
  ∀ j, j < l.length → ∃ b off, B = some ⟨b, off, none⟩ ∧ b < w.heap.size ∧ w.cell? ⟨b, off + j * 2, none⟩ = some (.int .i64 (sd l j).sz) ∧ w.cell? ⟨b, off + j * 2 + 1, none⟩ = some (.slice (sd l j).A (sd l j).ws.length (sd l j).c) ∧ Rd w (sd l j).A (sd l j).ws
theorem RdS.below {w w' : World} {B : Option Addr} {l : List SV} (h : RdS w B l) (hb : Below w.heap.size w w') : RdS w' B l := by
  intro j hj
  obtain ⟨b, off, rfl, hlt, h1, h2, h3⟩ := h j hj
  exact ⟨b, off, rfl, Nat.lt_of_lt_of_le hlt hb.size, (hb.cell (p := ⟨b, off + j * 2, none⟩) hlt).trans h1, (hb.cell (p := ⟨b, off + j * 2 + 1, none⟩) hlt).trans h2, h3.below hb⟩
theorem RdS.nil (w : World) (B : Option Addr) : RdS w B [] := fun j hj => by simp at hj
/-- what is wrong with sets that should be of one universe -/
noncomputable def fitE (size : Int) (l : List SV) : Nat :=
  if (l.any fun s => !mayB s.sz s.ws) = true then 61 else if szB size = false then 60 else if (l.any fun s => decide (s.sz ≠ size)) = true then 60 else 0
theorem fitE_zero {size : Int} {l : List SV} (h : fitE size l = 0) : (∀ s ∈ l, mayB s.sz s.ws = true) ∧ szB size = true ∧ ∀ s ∈ l, s.sz = size := by
  unfold fitE at h
  split at h
  · cases h
  · rename_i h1
    split at h
    · cases h
    · rename_i h2
      split at h
      · cases h
      · rename_i h3
        refine ⟨fun s hs => ?_, by simpa using h2, fun s hs => ?_⟩
        · apply Decidable.byContradiction
          intro hn
          exact h1 (List.any_eq_true.2 ⟨s, hs, by simpa using hn⟩)
        · apply Decidable.byContradiction
          intro hn
          exact h3 (List.any_eq_true.2 ⟨s, hs, by simpa using hn⟩)
theorem fitE_cases (size : Int) (l : List SV) : fitE size l = 61 ∨ fitE size l = 60 ∨ fitE size l = 0 := by
  unfold fitE
  split
  · exact .inl rfl
  · split
    · exact .inr (.inl rfl)
    · split
      · exact .inr (.inl rfl)
      · exact .inr (.inr rfl)
set_option maxRecDepth 100000 in
set_option maxHeartbeats 4000000 in
theorem fit_any (size : Int) (B : Option Addr) (d : Nat) (l : List SV) (w : World) (hl : RdS w B l) (hok : ∀ s ∈ l, s.Ok) (hn : l.length ≤ 9223372036854775807) :
    Calls Try.prog 49 #[.int .i64 size, .slice B l.length d] w fun x w' => x = .returned (.int .i64 (fitE size l : Nat)) ∧ Below w.heap.size w w' := by
  have HOK := Lib.hid hok
  clear hok
  go_enter Try.func49, Try.ntmps49
  go_wp2
  go_loopw [11] (fun i wr => ∃ j : Nat, i = .int .i64 j ∧ j ≤ l.length ∧ (∀ k, k < j → mayB (sd l k).sz (sd l k).ws = true) ∧ Below w.heap.size w wr) (fun i _ => l.length - (intOf i).toNat)
  case atStart => exact ⟨0, rfl, Nat.zero_le _, fun k hk => by omega, Below.refl _ _⟩
  case round =>
    obtain ⟨j, rfl, hj, hall, hb⟩ := hrel
    have HALL := Lib.hid hall
    clear hall
    by_cases hlt2 : j < l.length
    · have hlb := hl.below hb
      obtain ⟨b, off, rfl, hblt, h1, h2, h3⟩ := hlb j hlt2
      have hsok := HOK.out _ (sd_mem hlt2)
      have hmem := sd_mem hlt2
      obtain ⟨s, hs⟩ : ∃ s, s = sd l j := ⟨_, rfl⟩
      rw [← hs] at h1 h2 h3 hsok hmem
      have HMAY := Lib.hid (fun W hW => may_any s.sz s.A s.c s.ws W hW hsok.lt (by have := hsok.len; omega))
      have HS := Lib.hid hs
      have HMEM := Lib.hid hmem
      clear hs hsok hmem
      cases hm : mayB s.sz s.ws with
      | false =>
        rw [hm] at HMAY
        have HP : Hid (fitE size l = 61) := by
          unfold Hid fitE
          rw [if_pos (List.any_eq_true.2 ⟨s, HMEM.out, by simp [hm]⟩)]
        clear hm
        go_wp2_with fail
        refine (HMAY.out _ (h3.below (bl_a (Below.refl _ _) _))).mono ?_
        rintro x w1 ⟨rfl, hb1⟩
        go_wp2
        go_ret
        rw [HP.out]
        exact ⟨rfl, bl_t (bl_a hb _) hb1⟩
      | true =>
        rw [hm] at HMAY
        have HM := Lib.hid hm
        clear hm
        go_wp2_with fail
        refine (HMAY.out _ (h3.below (bl_a (Below.refl _ _) _))).mono ?_
        rintro x w1 ⟨rfl, hb1⟩
        go_wp2
        go_roundw
        case rel => exact ⟨j + 1, by go_num, by omega, fun k hk => by
          by_cases h : k = j
          · rw [h, ← HS.out]; exact HM.out
          · exact HALL.out k (by omega), bl_t (bl_a hb _) hb1⟩
        case measure => simp [intOf]; omega
    · have hje : j = l.length := by omega
      have H1 : Hid (¬ (l.any fun s => !mayB s.sz s.ws) = true) := by
        intro h
        obtain ⟨s, hs, h2⟩ := List.any_eq_true.1 h
        obtain ⟨k, hk, rfl⟩ := List.mem_iff_getElem.1 hs
        have := HALL.out k (by omega)
        rw [sd_lt hk] at this
        rw [this] at h2
        simp at h2
      clear hje hj
      have hlj : l.length ≤ j := by omega
      clear hlt2
      cases hsz : szB size with
      | false =>
        have HP : Hid (fitE size l = 60) := by unfold Hid fitE; rw [if_neg H1.out, if_pos hsz]
        go_wp2_with (go_at_call 33; refine (sized_any size _).mono ?_; rintro e' w' ⟨rfl, rfl⟩)
        go_ret
        rw [HP.out]
        exact ⟨rfl, hb⟩
      | true =>
        go_wp2_with (go_at_call 33; refine (sized_any size _).mono ?_; rintro e' w' ⟨rfl, rfl⟩)
        go_loopw [24] (fun i wx => ∃ j2 : Nat, i = .int .i64 j2 ∧ j2 ≤ l.length ∧ (∀ k, k < j2 → (sd l k).sz = size) ∧ Below w.heap.size w wx) (fun i _ => l.length - (intOf i).toNat)
        case atStart => exact ⟨0, rfl, Nat.zero_le _, fun k hk => by omega, hb⟩
        case round =>
          obtain ⟨j2, rfl, hj2, hall2, hb2⟩ := hrel
          have HALL2 := Lib.hid hall2
          clear hall2
          by_cases hlt3 : j2 < l.length
          · have hlb := hl.below hb2
            obtain ⟨b, off, rfl, hblt, h1, h2, h3⟩ := hlb j2 hlt3
            have hmem := sd_mem hlt3
            obtain ⟨s, hs⟩ : ∃ s, s = sd l j2 := ⟨_, rfl⟩
            rw [← hs] at h1 h2 h3 hmem
            have HS := Lib.hid hs
            have HMEM := Lib.hid hmem
            clear hs hmem
            by_cases he : s.sz = size
            · have hne : (s.sz != size) = false := by rw [bne_eq_false_iff_eq]; exact he
              have HE := Lib.hid he
              clear he
              go_wp2
              go_roundw
              case rel => exact ⟨j2 + 1, by go_num, by omega, fun k hk => by
                by_cases h : k = j2
                · rw [h, ← HS.out]; exact HE.out
                · exact HALL2.out k (by omega), bl_a hb2 _⟩
              case measure => simp [intOf]; omega
            · have hne : (s.sz != size) = true := by rw [bne_iff_ne]; exact he
              have HP : Hid (fitE size l = 60) := by
                unfold Hid fitE
                rw [if_neg H1.out, if_neg (by rw [hsz]; simp), if_pos (List.any_eq_true.2 ⟨s, HMEM.out, by simpa using he⟩)]
              clear he
              go_wp2
              go_ret
              rw [HP.out]
              exact ⟨rfl, bl_a hb2 _⟩
          · have HP : Hid (fitE size l = 0) := by
              unfold Hid fitE
              rw [if_neg H1.out, if_neg (by rw [hsz]; simp), if_neg]
              intro h
              obtain ⟨s, hs, h2⟩ := List.any_eq_true.1 h
              obtain ⟨k, hk, rfl⟩ := List.mem_iff_getElem.1 hs
              have := HALL2.out k (by omega)
              rw [sd_lt hk] at this
              rw [this] at h2
              simp at h2
            go_wp2
            go_ret
            rw [HP.out]
            exact ⟨rfl, hb2⟩
end Go.Proofs.Ytlmjfcieiengcaa
