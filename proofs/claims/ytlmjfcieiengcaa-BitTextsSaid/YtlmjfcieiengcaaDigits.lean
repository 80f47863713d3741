/- bitset.digits: where a number's digits end, and its value, cut at 2^20. The text has at most 65536 bytes. -/
import Derived.Test.YtlmjfcieiengcaaBase
import Derived.Test.YtlmjfcieiengcaaScan
import Derived.Lib.Hide
namespace Go.Proofs.Ytlmjfcieiengcaa
open Go.RowKit
structure DRel (w wr : World) (s : ByteArray) (at_ e : Nat) : Prop where
  le : at_ ≤ e
  len : e ≤ s.size
  ds : ∀ i, at_ ≤ i → i < e → isd (by_ s i)
  nz : at_ < e → by_ s at_ ≠ 48
  b0 : wr.heap[w.heap.size]? = some (.cells #[.int .i64 0, .int .i64 0, .bool false] 63 (0, 0))
  b1 : wr.heap[w.heap.size + 1]? = some (.cells #[.int .i64 (cv s at_ (e - at_)), .int .i64 at_, .bool false] 63 (0, 0))
  bl : Below w.heap.size w wr
theorem cv_next {s : ByteArray} {at_ e v : Nat} (hle : at_ ≤ e) (hv : v = cv s at_ (e - at_)) (hlt : e < s.size) (hd : isd (by_ s e)) :
    (if 1048576 < (v : Int) * 10 + ((s[e].toNat : Int) - 48) then 1048576 else (v : Int) * 10 + ((s[e].toNat : Int) - 48)) = (cv s at_ (e + 1 - at_) : Int) := by
  have e1 : e + 1 - at_ = (e - at_) + 1 := by omega
  have e2 : at_ + (e - at_) = e := by omega
  have e3 := by_eq s e hlt
  obtain ⟨d1, d2⟩ := hd
  rw [e1, cv, e2, e3, ← hv]
  rw [e3] at d1 d2
  split <;> omega
theorem drel_next {w wr : World} {s : ByteArray} {at_ e v : Nat} (h : DRel w wr s at_ e) (hv : v = cv s at_ (e - at_)) (hlt : e < s.size) (hd : isd (by_ s e)) {V : Int} (hV : (if 1048576 < (v : Int) * 10 + ((s[e].toNat : Int) - 48) then 1048576 else (v : Int) * 10 + ((s[e].toNat : Int) - 48)) = V) (hz : at_ < e ∨ by_ s at_ ≠ 48) :
    DRel w ((wr.setCell ⟨w.heap.size + 1, 0, none⟩ (.int .i64 V)).drew) s at_ (e + 1) := by
  subst hV
  have hle := h.le
  refine ⟨by omega, by omega, fun i h1 h2 => ?_, fun _ => ?_, ?_, ?_, bl_d (bl_s h.bl (by simp) _)⟩
  · by_cases hi : i = e
    · subst hi; exact hd
    · exact h.ds i h1 (by omega)
  · rcases hz with hz | hz
    · exact h.nz hz
    · exact hz
  · exact (hs_other _ _ _ _ (by simp)).trans h.b0
  · refine (hs_same h.b1 0 _).trans ?_
    rw [cv_next hle hv hlt hd]
    rfl
theorem digits_any (s : ByteArray) (at_ : Nat) (w : World) (hs : s.size ≤ 65536) (ha : at_ ≤ s.size) :
    Calls Try.prog 58 #[.string s, .int .i64 at_] w fun x w' => ∃ e, DEnd s at_ e ∧ x = .returned (.tuple #[.agg #[.int .i64 (cv s at_ (e - at_)), .int .i64 at_, .bool false], .int .i64 e, .bool (decide (at_ < e))]) ∧ Below w.heap.size w w' := by
  go_enter Try.func58, Try.ntmps58
  go_wp2
  go_loopw [8] (fun v wr => ∃ e : Nat, v = .int .i64 e ∧ DRel w wr s at_ e) (fun v _ => s.size - (intOf v).toNat)
  case atStart => exact ⟨at_, rfl, ⟨Nat.le_refl _, ha, fun i h1 h2 => by omega, fun h => by omega, by rw [ha_old _ _ _ (by simp), ha_new _ _ _ rfl], by rw [ha_new _ _ _ (by simp)]; simp [cv], bl_a (bl_a (Below.refl _ _) _) _⟩⟩
  case round =>
    obtain ⟨e, rfl, hD⟩ := hrel
    obtain ⟨p0, p1, p2, f0, f1, f2, hg⟩ := blk3 hD.b1
    obtain ⟨q0, q1, q2, r0, r1, r2, hg0⟩ := blk3 hD.b0
    have h2 := hD.le
    obtain ⟨v, hv⟩ : ∃ v : Nat, v = cv s at_ (e - at_) := ⟨_, rfl⟩
    rw [← hv] at p0
    have hcv : (v : Int) ≤ 1048576 := by have := cv_le s at_ (e - at_); omega
    have HV := Lib.hid hv
    clear hv
    by_cases hlt : e < s.size
    · have hbe := by_eq s e hlt
      have HBE := Lib.hid hbe
      clear hbe
      by_cases hd : 48 ≤ (s[e].toNat : Int) ∧ (s[e].toNat : Int) ≤ 57
      · obtain ⟨hd1, hd2⟩ := hd
        have hdd : isd (by_ s e) := by have := HBE.out; unfold isd; omega
        obtain ⟨V, hV⟩ : ∃ V : Int, (if 1048576 < (v : Int) * 10 + ((s[e].toNat : Int) - 48) then 1048576 else (v : Int) * 10 + ((s[e].toNat : Int) - 48)) = V := ⟨_, rfl⟩
        by_cases hae : e ≤ at_
        · have hat : at_ < s.size := by omega
          have HBA := Lib.hid (by_eq s at_ hat)
          by_cases hz : (s[at_].toNat : Int) = 48
          · have hz1 : ((s[at_].toNat : Int) == 48) = true := by simpa using hz
            have HZ := Lib.hid hz
            clear hz
            go_wp2
            go_region
            go_wp2
            refine bodyPost_ret (res_ctt rfl _ _ (w.heap.size) 63 #[.int .i64 V, .int .i64 at_, .bool false] (0, 0) _ rfl (hs_same (hs_same (hs_same ((hs_other _ _ _ _ (by simp)).trans hD.b0) 0 _) 1 _) 2 _) Try.underlying63 rfl (by kernel_rfl)) rfl ?_
            refine ⟨e + 1, ⟨by omega, by omega, fun i h1 h3 => ?_, .inl ⟨by omega, by have := HBA.out; have := HZ.out; omega⟩⟩, ?_, bl_d (bl_s (bl_s (bl_s (bl_s hD.bl (by simp) _) (Nat.le_refl _) _) (Nat.le_refl _) _) (Nat.le_refl _) _)⟩
            · have : i = e := by omega
              subst this; exact hdd
            · rw [← hV, cv_next h2 HV.out hlt hdd]
              simp
              omega
          · have hz1 : ((s[at_].toNat : Int) == 48) = false := by simpa using hz
            go_wp2
            go_region
            go_wp2
            go_roundw
            case rel => exact ⟨e + 1, by go_num, drel_next hD HV.out hlt hdd hV (.inr (by have := HBA.out; omega))⟩
            case measure => simp [intOf]; omega
        · go_wp2
          go_region
          go_wp2
          go_roundw
          case rel => exact ⟨e + 1, by go_num, drel_next hD HV.out hlt hdd hV (.inl (by omega))⟩
          case measure => simp [intOf]; omega
      · go_wp2
        all_goals
          refine bodyPost_ret (res_ctt rfl _ _ (w.heap.size) 63 #[.int .i64 v, .int .i64 at_, .bool false] (0, 0) _ rfl (hs_same (hs_same (hs_same hD.b0 0 _) 1 _) 2 _) Try.underlying63 rfl (by kernel_rfl)) rfl ?_
          exact ⟨e, ⟨h2, hD.len, hD.ds, .inr ⟨hD.nz, fun _ h => by have := HBE.out; unfold isd at h; omega⟩⟩, by rw [← HV.out]; rfl, bl_s (bl_s (bl_s hD.bl (Nat.le_refl _) _) (Nat.le_refl _) _) (Nat.le_refl _) _⟩
    · have he : e = s.size := by have := hD.len; omega
      have HE := Lib.hid he
      clear he
      go_wp2
      refine bodyPost_ret (res_ctt rfl _ _ (w.heap.size) 63 #[.int .i64 v, .int .i64 at_, .bool false] (0, 0) _ rfl (hs_same (hs_same (hs_same hD.b0 0 _) 1 _) 2 _) Try.underlying63 rfl (by kernel_rfl)) rfl ?_
      exact ⟨e, ⟨h2, hD.len, hD.ds, .inr ⟨hD.nz, fun h => absurd h hlt⟩⟩, by rw [← HV.out]; rfl, bl_s (bl_s (bl_s hD.bl (Nat.le_refl _) _) (Nat.le_refl _) _) (Nat.le_refl _) _⟩
end Go.Proofs.Ytlmjfcieiengcaa
