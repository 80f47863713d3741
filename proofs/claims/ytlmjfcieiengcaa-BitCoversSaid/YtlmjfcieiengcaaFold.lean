/- bitset.fold: sets put together, word by word, into words of the call's own; the function handed in only reckons. -/
import Derived.Test.YtlmjfcieiengcaaSetRow
import Derived.Deep.RegionHeld3
import Derived.Deep.RegionWith
import Derived.BigRegion
namespace Go.Proofs.Ytlmjfcieiengcaa
open Go.RowKit
/-- word by word -/
def zipw (op : Nat → Nat → Nat) (bs ws : List Nat) : List Nat := bs.mapIdx fun i b => op b (wd ws i)
theorem zipw_length (op : Nat → Nat → Nat) (bs ws : List Nat) : (zipw op bs ws).length = bs.length := by simp [zipw]
theorem wd_zipw (op : Nat → Nat → Nat) (bs ws : List Nat) {i : Nat} (h : i < bs.length) : wd (zipw op bs ws) i = op (wd bs i) (wd ws i) := by
  rw [wd_lt (by rw [zipw_length]; exact h), wd_lt h]
  simp [zipw]
/-- the first k words put together -/
def zipk (op : Nat → Nat → Nat) (bs ws : List Nat) (k : Nat) : List Nat := bs.mapIdx fun i b => if i < k then op b (wd ws i) else b
theorem zipk_length (op : Nat → Nat → Nat) (bs ws : List Nat) (k : Nat) : (zipk op bs ws k).length = bs.length := by simp [zipk]
theorem wd_zipk (op : Nat → Nat → Nat) (bs ws : List Nat) (k : Nat) {i : Nat} (h : i < bs.length) : wd (zipk op bs ws k) i = if i < k then op (wd bs i) (wd ws i) else wd bs i := by
  rw [wd_lt (by rw [zipk_length]; exact h), wd_lt h]
  simp [zipk]
theorem zipk_zero (op : Nat → Nat → Nat) (bs ws : List Nat) : zipk op bs ws 0 = bs := by
  refine words_ext (by rw [zipk_length]) fun j => ?_
  by_cases h : j < bs.length
  · rw [wd_zipk _ _ _ _ h, if_neg (by omega)]
  · rw [wd_ge (by rw [zipk_length]; omega), wd_ge (by omega)]
theorem zipk_all (op : Nat → Nat → Nat) (bs ws : List Nat) : zipk op bs ws bs.length = zipw op bs ws := by
  refine words_ext (by rw [zipk_length, zipw_length]) fun j => ?_
  by_cases h : j < bs.length
  · rw [wd_zipk _ _ _ _ h, if_pos h, wd_zipw _ _ _ h]
  · rw [wd_ge (by rw [zipk_length]; omega), wd_ge (by rw [zipw_length]; omega)]
theorem zipk_succ (op : Nat → Nat → Nat) (bs ws : List Nat) {k : Nat} (h : k < bs.length) : (zipk op bs ws k).set k (op (wd bs k) (wd ws k)) = zipk op bs ws (k + 1) := by
  refine words_ext (by simp [zipk]) fun j => ?_
  rw [wd_set _ _ _ _ (by rw [zipk_length]; exact h)]
  by_cases hj : j < bs.length
  · rw [wd_zipk _ _ _ _ hj, wd_zipk _ _ _ _ hj]
    by_cases e : j = k
    · subst e
      rw [if_pos rfl, if_pos (by omega)]
    · rw [if_neg e]
      by_cases h2 : j < k
      · rw [if_pos h2, if_pos (by omega)]
      · rw [if_neg h2, if_neg (by omega)]
  · rw [if_neg (by omega), wd_ge (by rw [zipk_length]; omega), wd_ge (by rw [zipk_length]; omega)]
/-- the words behind j sets -/
def fw (op : Nat → Nat → Nat) (bs : List Nat) (l : List SV) : Nat → List Nat
  | 0 => bs
  | j + 1 => zipw op (fw op bs l j) (sd l j).ws
theorem fw_length (op : Nat → Nat → Nat) (bs : List Nat) (l : List SV) : ∀ j, (fw op bs l j).length = bs.length := by
  intro j
  induction j with
  | zero => rfl
  | succ j ih => rw [fw, zipw_length, ih]
theorem fw_lt {op : Nat → Nat → Nat} (hop : ∀ a b, a < 18446744073709551616 → b < 18446744073709551616 → op a b < 18446744073709551616) {bs : List Nat} {l : List SV} (hb : ∀ j, wd bs j < 18446744073709551616) (hl : ∀ s ∈ l, ∀ j, wd s.ws j < 18446744073709551616) :
    ∀ j, j ≤ l.length → ∀ i, wd (fw op bs l j) i < 18446744073709551616 := by
  intro j
  induction j with
  | zero => intro _; exact hb
  | succ j ih =>
    intro hj i
    rw [fw]
    by_cases hi : i < (fw op bs l j).length
    · rw [wd_zipw _ _ _ hi]
      exact hop _ _ (ih (by omega) i) (hl _ (sd_mem (by omega)) i)
    · rw [wd_ge (by rw [zipw_length]; omega)]
      decide
theorem grown_trans {a b c : World} {row : Option Nat} (h : a.grownBy b row) (k : b.grownBy c row) : a.grownBy c row :=
  ⟨k.os.trans h.os, k.tape.trans h.tape, k.output.trans h.output, Nat.le_trans h.size k.size, fun i hi hne => (k.block i (Nat.lt_of_lt_of_le hi h.size) hne).trans (h.block i hi hne)⟩
theorem grown_new {a w : World} {row : Option Nat} (h : a.grownBy w row) {p : Addr} (hp : a.heap.size ≤ p.block) (u : Value) : a.grownBy (w.setCell p u) row :=
  ⟨h.os, h.tape, h.output, by rw [size_set]; exact h.size, fun i hi hne => (hs_other w p u i (by omega)).trans (h.block i hi hne)⟩
theorem blk_cell {w w1 : World} {b o : Nat} (h : w1.heap[b]? = w.heap[b]?) : w1.cell? ⟨b, o, none⟩ = w.cell? ⟨b, o, none⟩ := by
  simp [World.cell?, h]
/-- where the words of the sets lie while the own words turn -/
def Src (op : Nat → Nat → Nat) (w : World) (g : Nat) (bs : List Nat) (l : List SV) : Prop :=
  ∀ j, j < l.length → ∀ k, k < bs.length → ∀ (W : World) (cur : List Nat), w.grownBy W (some g) → WB W g cur → cur.length = bs.length → (∀ i, k ≤ i → wd cur i = wd (fw op bs l j) i) →
    ∃ b off, (sd l j).A = some ⟨b, off, none⟩ ∧ b < W.heap.size ∧ W.cell? ⟨b, off + k, none⟩ = some (.int .u64 (wd (sd l j).ws k))
theorem src_apart {op : Nat → Nat → Nat} {w : World} {g : Nat} {bs : List Nat} {l : List SV} (hlen : ∀ s ∈ l, s.ws.length = bs.length) (hl : ∀ s ∈ l, Rd w s.A s.ws) (hne : ∀ s ∈ l, 0 < s.ws.length → ∀ a, s.A = some a → a.block ≠ g) : Src op w g bs l := by
  intro j hj k hk W cur hW _ _ _
  obtain ⟨b, off, h1, h2, h3⟩ := hl _ (sd_mem hj) k (by rw [hlen _ (sd_mem hj)]; exact hk)
  refine ⟨b, off, h1, Nat.lt_of_lt_of_le h2 hW.size, ?_⟩
  rw [blk_cell (hW.block b h2 (by intro h; injection h with h; exact hne _ (sd_mem hj) (by rw [hlen _ (sd_mem hj)]; omega) _ h1 h))]
  exact h3
theorem src_self {op : Nat → Nat → Nat} {w : World} {g : Nat} {bs : List Nat} {s : SV} (hA : s.A = some ⟨g, 0, none⟩) (hws : s.ws = bs) : Src op w g bs [s] := by
  intro j hj k hk W cur _ hW hcl hcur
  obtain rfl : j = 0 := by simp at hj; omega
  refine ⟨g, 0, hA, hW.lt, ?_⟩
  have h := hW.cell (j := k) (by omega)
  rw [hcur k (Nat.le_refl _)] at h
  rw [Nat.zero_add, h]
  show some (Value.int .u64 (wd bs k : Nat)) = some (.int .u64 (wd s.ws k : Nat))
  rw [hws]
set_option maxRecDepth 100000 in
set_option maxHeartbeats 10000000 in
theorem fold_any (op : Nat → Nat → Nat) (F : FuncId) (sz : Int) (g c0 : Nat) (bs : List Nat) (B : Option Addr) (d : Nat) (l : List SV) (w : World)
    (hop : ∀ a b, a < 18446744073709551616 → b < 18446744073709551616 → op a b < 18446744073709551616)
    (hF : ∀ (a b : Nat) (W : World), a < 18446744073709551616 → b < 18446744073709551616 → Calls Try.prog F #[.int .u64 a, .int .u64 b] W fun x w' => x = .returned (.int .u64 (op a b : Nat)) ∧ W = w')
    (hent : ∀ args W, (callFunc F args).run Try.prog W = .ok (.enter F args) W)
    (hg : WB w g bs) (hbs : ∀ j, wd bs j < 18446744073709551616) (hbl : bs.length ≤ 64) (hl : RdS w B l) (hB : 0 < l.length → ∀ b off, B = some ⟨b, off, none⟩ → b ≠ g) (hok : ∀ s ∈ l, ∀ j, wd s.ws j < 18446744073709551616) (hlen : ∀ s ∈ l, s.ws.length = bs.length) (hsrc : Src op w g bs l) (hn : l.length ≤ 9223372036854775807) :
    Calls Try.prog 50 #[.agg #[.int .i64 sz, .slice (some ⟨g, 0, none⟩) bs.length c0], .slice B l.length d, .func (.func F) #[] #[]] w fun x w' => x = .returned (.agg #[.int .i64 sz, .slice (some ⟨g, 0, none⟩) bs.length c0]) ∧ WB w' g (fw op bs l l.length) ∧ w.grownBy w' (some g) := by
  have HF := Lib.hid hF
  have HOP := Lib.hid hop
  have HSRC := Lib.hid hsrc
  have HLEN := Lib.hid hlen
  have HFW := Lib.hid (fw_lt hop hbs hok (l := l))
  have HFL := Lib.hid (fw_length op bs l)
  have HOK := Lib.hid hok
  have HB := Lib.hid hB
  have hgl := hg.lt
  clear hF hop hsrc hlen hok hB
  go_enter Try.func50, Try.ntmps50
  go_wp2
  go_loopw [13] (fun i wr => ∃ j : Nat, i = .int .i64 j ∧ j ≤ l.length ∧ WB wr g (fw op bs l j) ∧ wr.heap[w.heap.size]? = some (.cells #[.int .i64 sz, .slice (some ⟨g, 0, none⟩) bs.length c0] 24 (0, 0)) ∧ wr.heap[w.heap.size + 1]? = some (.cells #[.int .i64 0, .slice none 0 0] 24 (0, 0)) ∧ w.grownBy wr (some g)) (fun i _ => l.length - (intOf i).toNat)
  case atStart => exact ⟨0, rfl, Nat.zero_le _, (hg.alloc _).alloc _, (ha_old _ _ _ (by simp)).trans (ha_new _ _ _ rfl), ha_new _ _ _ (by simp), grown_alloc (grown_alloc (grown_refl _ _) _) _⟩
  case round =>
    obtain ⟨j, rfl, hj, hwb, hbx, hby, hgr⟩ := hrel
    obtain ⟨p0, p1, f0, f1, hg0⟩ := blk2 hbx
    by_cases hlt2 : j < l.length
    · obtain ⟨b, off, rfl, hblt, h1, h2, _⟩ := hl j hlt2
      have hbg := HB.out (by omega) b off rfl
      have hblk := hgr.block b hblt (by intro h; injection h with h; exact hbg h)
      rw [← blk_cell (o := off + j * 2) hblk] at h1
      rw [← blk_cell (o := off + j * 2 + 1) hblk] at h2
      have hbw : b < wr.heap.size := Nat.lt_of_lt_of_le hblt hgr.size
      have hsl := HLEN.out _ (sd_mem hlt2)
      rw [hsl] at h2
      have hsz1 := hgr.size
      obtain ⟨wo, rfl⟩ : ∃ wo : World, wo = wr := ⟨_, rfl⟩
      have HWB := Lib.hid hwb
      have HBX := Lib.hid hbx
      have HBY := Lib.hid hby
      have HGR := Lib.hid hgr
      have hsrc' := HSRC.out j hlt2
      have hfw := HFW.out j (by omega)
      have hok := HOK.out _ (sd_mem hlt2)
      have HNX : Hid (fw op bs l (j + 1) = zipw op (fw op bs l j) (sd l j).ws) := rfl
      have hfl := HFL.out j
      obtain ⟨cs, hcs⟩ : ∃ cs, cs = fw op bs l j := ⟨_, rfl⟩
      obtain ⟨A2, hA2⟩ : ∃ A2, A2 = (sd l j).A := ⟨_, rfl⟩
      obtain ⟨ws, hws⟩ : ∃ ws, ws = (sd l j).ws := ⟨_, rfl⟩
      rw [← hcs, ← hA2, ← hws] at hsrc'
      rw [← hA2] at h2
      rw [← hcs] at hfw HWB hfl
      rw [← hws] at hok
      rw [← hcs, ← hws] at HNX
      have HSR := Lib.hid hsrc'
      have HCF := Lib.hid hfw
      have HWF := Lib.hid hok
      have HFL2 := Lib.hid hfl
      clear hwb hbx hby hgr hsl hblk hsrc' hfw hok hcs hA2 hws hfl
      go_wp2
      go_loopw [20] (fun i wi => ∃ k : Nat, i = .int .i64 k ∧ k ≤ bs.length ∧ WB wi g (zipk op cs ws k) ∧ wi.heap[w.heap.size]? = some (.cells #[.int .i64 sz, .slice (some ⟨g, 0, none⟩) bs.length c0] 24 (0, 0)) ∧ wi.heap[w.heap.size + 1]? = some (.cells #[.int .i64 0, .slice none 0 0] 24 (0, 0)) ∧ w.grownBy wi (some g)) (fun i _ => bs.length - (intOf i).toNat)
      case atStart => exact ⟨0, rfl, Nat.zero_le _, by rw [zipk_zero]; exact HWB.out.alloc _, (ha_old _ _ _ (blk_lt HBX.out)).trans HBX.out, (ha_old _ _ _ (blk_lt HBY.out)).trans HBY.out, grown_alloc HGR.out _⟩
      case round =>
        obtain ⟨k, rfl, hk, hwi, hbxi, hbyi, hgri⟩ := hrel
        clear p0 p1 f0 f1 h1 h2 hg0 hbw
        obtain ⟨p0, p1, f0, f1, hg0⟩ := blk2 hbxi
        by_cases hlt3 : k < bs.length
        · obtain ⟨b2, off2, rfl, hb2, hc2⟩ := HSR.out k hlt3 wr _ hgri hwi (by rw [zipk_length, HFL2.out]) (fun i hi => by
            by_cases h : i < cs.length
            · rw [wd_zipk _ _ _ _ h, if_neg (by omega)]
            · rw [wd_ge (by rw [zipk_length]; omega), wd_ge (by omega)])
          have hkc : k < cs.length := by rw [HFL2.out]; exact hlt3
          have hco := hwi.cell (j := k) (by rw [zipk_length]; exact hkc)
          rw [wd_zipk _ _ _ _ hkc, if_neg (by omega)] at hco
          have hfo := hwi.frozen k
          have hgi := hwi.lt
          have hset := zipk_succ op cs ws hkc
          have ha64 := HCF.out k
          have hb64 := HWF.out k
          obtain ⟨a, ha⟩ : ∃ a, a = wd cs k := ⟨_, rfl⟩
          obtain ⟨bb, hbb⟩ : ∃ bb, bb = wd ws k := ⟨_, rfl⟩
          rw [← ha] at hco ha64 hset
          rw [← hbb] at hc2 hb64 hset
          have HSET := Lib.hid hset
          have HZ := Lib.hid (And.intro ha hbb)
          have hnb : w.heap.size ≠ g := by omega
          have hnb2 : g ≠ w.heap.size := by omega
          have HWI := Lib.hid (And.intro hwi (And.intro hbxi (And.intro hbyi hgri)))
          have HKC := Lib.hid hkc
          clear hwi hbxi hbyi hgri hset ha hbb hkc
          go_wp2
          go_region_with (refine (HF.out a bb _ ha64 hb64).mono ?_; rintro x w1 ⟨rfl, rfl⟩)
          all_goals
            obtain ⟨hwi, hbxi, hbyi, hgri⟩ := HWI.out
            have hx1 := blk_lt hbxi
            have hx2 := blk_lt hbyi
            clear hbxi hbyi
            have hw2 : WB (wr.setCell ⟨g, k, none⟩ (.int .u64 (op a bb : Nat))) g (zipk op cs ws (k + 1)) := by
              have := hwi.set (j := k) (by rw [zipk_length]; exact HKC.out) (op a bb)
              rw [HSET.out] at this
              exact this
            have HW2 := Lib.hid hw2
            clear hwi hw2 hgri
            go_wp2
            go_roundw
            case rel => exact ⟨k + 1, by go_num, by omega, HW2.out, (hs_other _ _ _ _ (by simp; omega)).trans HWI.out.2.1, (hs_other _ _ _ _ (by simp; omega)).trans HWI.out.2.2.1, grown_drew (grown_set HWI.out.2.2.2 _ _)⟩
            case measure => simp [intOf]; omega
        · have hke : k = bs.length := by omega
          have HWI := Lib.hid (And.intro hwi (And.intro hbxi (And.intro hbyi hgri)))
          have HKE := Lib.hid hke
          have hle : bs.length ≤ k := by omega
          clear hwi hbxi hbyi hgri p0 p1 f0 f1 hg0 hke hlt3
          go_wp2
          go_roundw
          case rel => exact ⟨j + 1, by go_num, by omega, by rw [HNX.out, ← zipk_all, HFL2.out, ← HKE.out]; exact HWI.out.1, HWI.out.2.1, HWI.out.2.2.1, HWI.out.2.2.2⟩
          case measure => simp [intOf]; omega
    · obtain rfl : j = l.length := by omega
      have hy0 := hby
      obtain ⟨q0, q1, r0, r1, hg1⟩ := blk2 hby
      have HWB := Lib.hid (And.intro hwb hgr)
      have hsz1 := hgr.size
      clear hwb hgr hby
      go_wp2
      refine bodyPost_ret (res_c rfl _ _ (w.heap.size + 1) 24 #[.int .i64 sz, .slice (some ⟨g, 0, none⟩) bs.length c0] (0, 0) _ rfl (hs_same (hs_same hy0 0 _) 1 _) Try.underlying24 rfl (by kernel_rfl)) rfl ?_
      refine ⟨rfl, (HWB.out.1.other (by simp; omega) _).other (by simp; omega) _, grown_new (grown_new HWB.out.2 (by simp) _) (by simp) _⟩
end Go.Proofs.Ytlmjfcieiengcaa
