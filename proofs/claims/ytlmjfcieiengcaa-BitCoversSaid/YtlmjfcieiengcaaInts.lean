/- Rows of ints: read, of the call's own; lent, back and sameInts of the statements. -/
import Derived.Test.YtlmjfcieiengcaaTwin
namespace Go.Proofs.Ytlmjfcieiengcaa
open Go.RowKit
def zd (zs : List Int) (j : Nat) : Int := zs.getD j 0
theorem zd_lt {zs : List Int} {j : Nat} (h : j < zs.length) : zd zs j = zs[j] := by
  unfold zd
  rw [List.getD_eq_getElem?_getD, List.getElem?_eq_getElem h]
  rfl
theorem zd_ge {zs : List Int} {j : Nat} (h : zs.length ≤ j) : zd zs j = 0 := by
  unfold zd
  rw [List.getD_eq_getElem?_getD, List.getElem?_eq_none h]
  rfl
theorem ints_ext {a b : List Int} (hl : a.length = b.length) (h : ∀ j, zd a j = zd b j) : a = b := by
  refine List.ext_getElem hl fun j h1 h2 => ?_
  have := h j
  rwa [zd_lt h1, zd_lt h2] at this
def RdI (w : World) (A : Option Addr) (zs : List Int) : Prop :=
  ∀ j, j < zs.length → ∃ b off, A = some ⟨b, off, none⟩ ∧ b < w.heap.size ∧ w.cell? ⟨b, off + j, none⟩ = some (.int .i64 (zd zs j))
theorem RdI.below {w w' : World} {A : Option Addr} {zs : List Int} (h : RdI w A zs) (hb : Below w.heap.size w w') : RdI w' A zs := by
  intro j hj
  obtain ⟨b, off, rfl, hlt, hc⟩ := h j hj
  exact ⟨b, off, rfl, Nat.lt_of_lt_of_le hlt hb.size, (hb.cell (p := ⟨b, off + j, none⟩) hlt).trans hc⟩
theorem RdI.nil (w : World) (A : Option Addr) : RdI w A [] := fun j hj => by simp at hj
theorem RdI.pre {w : World} {A : Option Addr} {zs xs : List Int} (h : RdI w A (zs ++ xs)) : RdI w A zs := by
  intro j hj
  obtain ⟨b, off, h1, h2, h3⟩ := h j (by simp; omega)
  refine ⟨b, off, h1, h2, h3.trans ?_⟩
  unfold zd
  rw [List.getD_eq_getElem?_getD, List.getD_eq_getElem?_getD, List.getElem?_append_left hj]
def encI (zs : List Int) : List Value := zs.map fun z => Value.int .i64 z
def IB (w : World) (g : Nat) (zs : List Int) : Prop := ∃ sp : List Value, w.heap[g]? = some (.cells (encI zs ++ sp).toArray 3 (0, 0))
theorem IB.lt {w : World} {g : Nat} {zs : List Int} (h : IB w g zs) : g < w.heap.size := by obtain ⟨sp, h⟩ := h; exact blk_lt h
theorem IB.cell {w : World} {g : Nat} {zs : List Int} (h : IB w g zs) {j : Nat} (hj : j < zs.length) : w.cell? ⟨g, j, none⟩ = some (.int .i64 (zd zs j)) := by
  obtain ⟨sp, h⟩ := h
  rw [cell_of_row w g j _ _ _ h, List.getElem?_toArray, List.getElem?_append_left (by simpa [encI] using hj), zd_lt hj]
  simp [encI, hj]
theorem IB.other {w : World} {g : Nat} {zs : List Int} (h : IB w g zs) {p : Addr} (hp : g ≠ p.block) (u : Value) : IB (w.setCell p u) g zs := by
  obtain ⟨sp, h⟩ := h
  exact ⟨sp, (hs_other w p u g hp).trans h⟩
theorem IB.alloc {w : World} {g : Nat} {zs : List Int} (h : IB w g zs) (o : Obj) : IB (w.alloc o) g zs := by
  obtain ⟨sp, h⟩ := h
  exact ⟨sp, (ha_old w o g (blk_lt h)).trans h⟩
theorem IB.below {w w' : World} {g : Nat} {zs : List Int} (h : IB w g zs) (hb : Below w.heap.size w w') : IB w' g zs := by
  obtain ⟨sp, h⟩ := h
  exact ⟨sp, (hb.block g (blk_lt h)).trans h⟩
theorem IB.rd {w : World} {g : Nat} {zs : List Int} (h : IB w g zs) : RdI w (some ⟨g, 0, none⟩) zs := fun j hj => ⟨g, 0, rfl, h.lt, by rw [Nat.zero_add]; exact h.cell hj⟩
theorem info_int : (Try.prog.info? 3).map (fun i => (i.zero, i.size, i.bytes)) = some (some (.int .i64 0), 1, 8) := by kernel_rfl
theorem oneCell_encI (zs : List Int) : ∀ u ∈ encI zs, u.oneCell' = true := by
  intro u hu
  simp only [encI, List.mem_map] at hu
  obtain ⟨x, _, rfl⟩ := hu
  rfl
theorem encI_get (zs : List Int) (j : Nat) (u : Value) (h : (encI zs)[j]? = some u) : j < zs.length ∧ u = .int .i64 (zd zs j) := by
  have hj : j < zs.length := by
    have := (List.getElem?_eq_some_iff.1 h).1
    simpa [encI] using this
  refine ⟨hj, ?_⟩
  rw [zd_lt hj]
  simp only [encI, List.getElem?_map, List.getElem?_eq_getElem hj] at h
  simpa using h.symm
theorem rdI_news {W : World} {A : Option Addr} {zs : List Int} (hr : RdI W A zs) : ∀ j u, (encI zs)[j]? = some u → ∃ b off, A = some ⟨b, off, none⟩ ∧ W.cell? ⟨b, off + j, none⟩ = some u := by
  intro j u hj
  obtain ⟨hj1, rfl⟩ := encI_get zs j u hj
  obtain ⟨b, off, hb, _, hc⟩ := hr j hj1
  exact ⟨b, off, hb, hc⟩
theorem own_ib {w : World} {base g n m c : Nat} {zs : List Int} (h : w.ownsRow base 3 1 (.slice (some ⟨g, 0, none⟩) m c) n (encI zs)) : IB w g zs ∧ base ≤ g ∧ m = n ∧ n ≤ c := by
  rcases h.2 with ⟨h1, _⟩ | ⟨g', cap, cur, h1, hb, hh, hc, _, hs, ht⟩
  · cases h1
  · injection h1 with h1 h2 h3
    injection h1 with h1
    injection h1 with h1
    subst h1 h2 h3
    refine ⟨⟨cur.toList.drop (m * 1), hh.trans ?_⟩, hb, rfl, hc⟩
    congr 2
    rw [← Array.toList_inj]
    show cur.toList = encI zs ++ cur.toList.drop (m * 1)
    rw [← ht, List.take_append_drop]
def sameIB (a b : List Int) : Bool := decide (a = b)
set_option maxHeartbeats 4000000 in
theorem sameInts_any (A B : Option Addr) (ca cb : Nat) (a b : List Int) (w : World) (ha : RdI w A a) (hb : RdI w B b) (hla : a.length ≤ 9223372036854775807) :
    Calls Try.prog 15 #[.slice A a.length ca, .slice B b.length cb] w fun x w' => x = .returned (.bool (sameIB a b)) ∧ Below w.heap.size w w' := by
  by_cases hl : a.length = b.length
  · have HL := Lib.hid hl
    have hl1 : a.length ≤ b.length := by omega
    have hl2 : b.length ≤ a.length := by omega
    clear hl
    go_enter Try.func15, Try.ntmps15
    go_wp2
    go_loopw [5] (fun v wr => ∃ i : Nat, v = .int .i64 i ∧ i ≤ a.length ∧ (∀ j, j < i → zd a j = zd b j) ∧ Below w.heap.size w wr) (fun v _ => a.length - (intOf v).toNat)
    case atStart => exact ⟨0, rfl, by omega, fun j h => by omega, Below.refl _ _⟩
    case round =>
      obtain ⟨i, rfl, hi, heq, hbl⟩ := hrel
      have HEQ := Lib.hid heq
      clear heq
      by_cases hlt : i < a.length
      · obtain ⟨ba, oa, rfl, hblt, hcell⟩ := ha i hlt
        have hca := (hbl.cell (p := ⟨ba, oa + i, none⟩) hblt).trans hcell
        obtain ⟨bb, ob, rfl, hblt2, hcell2⟩ := hb i (by omega)
        have hcb := (hbl.cell (p := ⟨bb, ob + i, none⟩) hblt2).trans hcell2
        clear hcell hcell2
        by_cases hw : zd a i = zd b i
        · obtain ⟨X, hX⟩ : ∃ X, X = zd a i := ⟨_, rfl⟩
          rw [← hw, ← hX] at hcb
          rw [← hX] at hca
          have HX := Lib.hid hX
          have HW := Lib.hid hw
          clear hX hw
          go_wp2
          go_quiet (fail)
          go_wp2
          go_roundw
          case rel => exact ⟨i + 1, by go_num, by omega, fun j hj => by
            by_cases h : j = i
            · rw [h]; exact HW.out
            · exact HEQ.out j (by omega), bl_dn hbl _⟩
          case measure => simp [intOf]; omega
        · have hne : sameIB a b = false := by
            unfold sameIB
            rw [decide_eq_false_iff_not]
            intro h
            exact hw (by rw [h])
          obtain ⟨X, hX⟩ : ∃ X, X = zd a i := ⟨_, rfl⟩
          obtain ⟨Y, hY⟩ : ∃ Y, Y = zd b i := ⟨_, rfl⟩
          rw [← hY] at hcb
          rw [← hX] at hca
          have hxy : (X != Y) = true := by rw [bne_iff_ne, hX, hY]; exact hw
          have HNE := Lib.hid hne
          clear hX hY hw hne
          go_wp2
          go_quiet (fail)
          go_wp2
          go_ret
          exact ⟨by rw [HNE.out]; rfl, bl_dn hbl _⟩
      · have hle : a.length ≤ i := by omega
        have heq : sameIB a b = true := by
          unfold sameIB
          rw [decide_eq_true_iff]
          refine ints_ext HL.out fun j => ?_
          by_cases hj : j < i
          · exact HEQ.out j hj
          · rw [zd_ge (by omega), zd_ge (by omega)]
        have HEQ := Lib.hid heq
        clear heq
        go_wp2
        go_ret
        exact ⟨by rw [HEQ.out]; rfl, hbl⟩
  · have hne : sameIB a b = false := by
      unfold sameIB
      rw [decide_eq_false_iff_not]
      intro h
      exact hl (by rw [h])
    have HNE := Lib.hid hne
    have hl' : ((a.length : Int) != b.length) = true := by rw [bne_iff_ne]; omega
    clear hne hl
    go_enter Try.func15, Try.ntmps15
    go_wp2
    go_ret
    exact ⟨by rw [HNE.out]; rfl, Below.refl _ _⟩
end Go.Proofs.Ytlmjfcieiengcaa
