/- sloperef3.form: as bitset.numbers: the numbers of a text that has the form, or the place at which nothing goes on. The text has at most 65536 bytes. -/
import Derived.Test.YtlmjfcieiengcaaSmall
import Derived.Test.YtlmjfcieiengcaaNumbers
namespace Go.Proofs.Ytlmjfcieiengcaa
open Go.RowKit
theorem info_num : (Try.prog.info? 72).map (fun i => (i.zero, i.size, i.bytes)) = some (some (.agg #[.int .i64 0, .int .i64 0, .int .u8 0]), 3, 24) := by kernel_rfl
/-- the value of k digits from a on, cut as the document's answer cuts it -/
def rv (s : ByteArray) (a : Nat) : Nat → Nat
  | 0 => 0
  | k + 1 => if rv s a k < 100000 then 10 * rv s a k + (by_ s (a + k) - 48) else rv s a k
theorem rv_le (s : ByteArray) (a k : Nat) : rv s a k ≤ 1000207 := by
  induction k with
  | zero => simp [rv]
  | succ k ih =>
    simp only [rv]
    have := by_lt s (a + k)
    split <;> omega
def behind (s : ByteArray) (e : Nat) : Nat := if e < s.size then by_ s e else 0
def fcell (s : ByteArray) (t : Tok) : List Value := [.int .i64 (rv s t.a (t.e - t.a)), .int .i64 t.a, .int .u8 (behind s t.e)]
def fcells (s : ByteArray) (l : List Tok) : List Value := l.flatMap (fcell s)
theorem fcells_snoc (s : ByteArray) (l : List Tok) (t : Tok) : fcells s (l ++ [t]) = fcells s l ++ fcell s t := by simp [fcells]
/-- what form answers -/
def FormPost (s : ByteArray) (w : World) (x : Ending) (w' : World) : Prop :=
  Below w.heap.size w w' ∧ ((∃ p, (scan s 0 0 false).2 = some p ∧ p ≤ s.size ∧ ∃ v, x = .returned (.tuple #[v, .int .i64 p])) ∨
    ((scan s 0 0 false).2 = none ∧ ∃ A c, x = .returned (.tuple #[.slice A (scan s 0 0 false).1.length c, .int .i64 (-1)]) ∧ w'.ownsRow w.heap.size 72 3 (.slice A (scan s 0 0 false).1.length c) (scan s 0 0 false).1.length (fcells s (scan s 0 0 false).1)))
structure FRel (w wr : World) (s : ByteArray) (A : Option Addr) (c i k T : Nat) (pre : List Tok) (x y z : Int) : Prop where
  part : Part s pre (i - k) T (pre.length == 1)
  hk : k ≤ i
  hi : i ≤ s.size
  ds : ∀ j, i - k ≤ j → j < i → isd (by_ s j)
  nz : 1 < k → by_ s (i - k) ≠ 48
  hpi : pre.length ≤ i
  hT : T = 0 ↔ pre.length = 0
  hT2 : T ≤ 2
  own : wr.ownsRow (w.heap.size + 1) 72 3 (.slice A pre.length c) pre.length (fcells s pre)
  blk : wr.heap[w.heap.size]? = some (.cells #[.int .i64 x, .int .i64 y, .int .u8 z] 72 (0, 0))
  val : 0 < k → x = (rv s (i - k) k : Int) ∧ y = ((i - k : Nat) : Int) ∧ z = 0
  bl : Below w.heap.size w wr
theorem frel_below {w wr w3 : World} {s : ByteArray} {A : Option Addr} {c i k T : Nat} {pre : List Tok} {x y z : Int} (h : FRel w wr s A c i k T pre x y z) (hb : Below wr.heap.size wr w3) : FRel w w3 s A c i k T pre x y z :=
  ⟨h.part, h.hk, h.hi, h.ds, h.nz, h.hpi, h.hT, h.hT2, own_below h.own hb, (hb.block _ (blk_lt h.blk)).trans h.blk, h.val, bl_t h.bl hb⟩
/-- one more digit: the world is told by its block and its row -/
theorem frel_digit {w wr w4 : World} {s : ByteArray} {A : Option Addr} {c i k T : Nat} {pre : List Tok} {x y z x' : Int} (h : FRel w wr s A c i k T pre x y z) (hlt : i < s.size) (hd : isd (by_ s i)) (hz : 0 < k → by_ s (i - k) ≠ 48)
    (hx : x' = (rv s (i - k) (k + 1) : Int)) (ho : w4.ownsRow (w.heap.size + 1) 72 3 (.slice A pre.length c) pre.length (fcells s pre))
    (hb : w4.heap[w.heap.size]? = some (.cells #[.int .i64 x', .int .i64 ((i - k : Nat) : Int), .int .u8 0] 72 (0, 0))) (hbl : Below w.heap.size w w4) : FRel w w4 s A c (i + 1) (k + 1) T pre x' ((i - k : Nat) : Int) 0 := by
  have hk := h.hk
  have e : i + 1 - (k + 1) = i - k := by omega
  refine ⟨by rw [e]; exact h.part, by omega, by omega, fun j h1 h2 => ?_, fun h1 => ?_, by have := h.hpi; omega, h.hT, h.hT2, ho, hb, fun _ => ⟨by rw [e]; exact hx, by rw [e], rfl⟩, hbl⟩
  · by_cases hj : j = i
    · subst hj; exact hd
    · exact h.ds j (by omega) (by omega)
  · rw [e]; exact hz (by omega)
theorem frel_next {w wr w4 : World} {s : ByteArray} {A A' : Option Addr} {c c' i k T : Nat} {pre : List Tok} {x y z x' y' z' : Int} (h : FRel w wr s A c i k T pre x y z) (hlt : i < s.size) (hE : DEnd s (i - k) i) (hk0 : 0 < k)
    (haft : aft T (by_ s i) = true) (ho : w4.ownsRow (w.heap.size + 1) 72 3 (.slice A' (pre.length + 1) c') (pre.length + 1) (fcells s pre ++ [.int .i64 x, .int .i64 y, .int .u8 (by_ s i)]))
    (hb : w4.heap[w.heap.size]? = some (.cells #[.int .i64 x', .int .i64 y', .int .u8 z'] 72 (0, 0))) (hbl : Below w.heap.size w w4) :
    FRel w w4 s A' c' (i + 1) 0 (nxt (by_ s i)) (pre ++ [⟨i - k, i, T⟩]) x' y' z' := by
  have hk := h.hk
  have hl : (pre ++ [(⟨i - k, i, T⟩ : Tok)]).length = pre.length + 1 := by rw [List.length_append]; rfl
  have hpt := part_go h.part hE (by omega) hlt haft
  have h1 : (T == 0) = (pre.length + 1 == 1) := by
    have := h.hT
    rw [Bool.eq_iff_iff, beq_iff_eq, beq_iff_eq]; omega
  obtain ⟨v1, v2, v3⟩ := h.val hk0
  have hn : nxt (by_ s i) ≠ 0 ∧ nxt (by_ s i) ≤ 2 := by unfold nxt; split <;> decide
  refine ⟨?_, by omega, by omega, fun j h1 h2 => by omega, fun h1 => by omega, by rw [hl]; have := h.hpi; omega, by rw [hl]; omega, hn.2, ?_, hb, fun h1 => by omega, hbl⟩
  · rw [hl, ← h1]; exact hpt
  · rw [hl, fcells_snoc]
    have : fcell s ⟨i - k, i, T⟩ = [.int .i64 x, .int .i64 y, .int .u8 (by_ s i)] := by
      unfold fcell behind
      rw [if_pos hlt, v1, v2, show i - (i - k) = k from by omega]
    rw [this]; exact ho
set_option maxHeartbeats 10000000 in
set_option maxRecDepth 100000 in
theorem form_any (s : ByteArray) (w : World) (hs : s.size ≤ 65536) :
    Calls Try.prog 38 #[.string s] w (FormPost s w) := by
  go_enter Try.func38, Try.ntmps38
  go_wp2
  go_loopw [4, 6, 7, 8] (fun l t k i wr => ∃ (pre : List Tok) (A : Option Addr) (c I K T : Nat) (x y z : Int), l = .slice A pre.length c ∧ t = .int .i64 T ∧ k = .int .i64 K ∧ i = .int .i64 I ∧ FRel w wr s A c I K T pre x y z) (fun _ _ _ i _ => s.size - (intOf i).toNat)
  case atStart => exact ⟨[], none, 0, 0, 0, 0, 0, 0, 0, rfl, rfl, rfl, rfl, ⟨part_start s, by omega, by omega, fun j h1 h2 => by omega, fun h => by omega, by simp, by simp, by omega, World.ownsRow_nil _ _ _ _, ha_new _ _ _ rfl, fun h => by omega, bl_a (Below.refl _ _) _⟩⟩
  case round =>
    obtain ⟨pre, A, c, i, k, T, x, y, z, rfl, rfl, rfl, rfl, hN⟩ := hrel
    have hki := hN.hk
    have hi := hN.hi
    have hpi := hN.hpi
    have hT2 := hN.hT2
    obtain ⟨p0, p1, p2, f0, f1, f2, hg⟩ := blk3 hN.blk
    by_cases hlt : i < s.size
    · have HBE := Lib.hid (by_eq s i hlt)
      by_cases hk0 : 0 < k
      · obtain ⟨hx, hy, hz⟩ := hN.val hk0
        subst hz
        obtain ⟨a, ha⟩ : ∃ a, a = i - k := ⟨_, rfl⟩
        have hka : a + k = i := by omega
        have hX := rv_le s (i - k) k
        have hx0 : 0 ≤ x := by omega
        have hx1 : x ≤ 1000207 := by omega
        have HX : Hid (x = (rv s (i - k) k : Int)) := hx
        rw [← ha] at hy
        rw [hy] at p1
        have HKA := Lib.hid hka
        have HA := Lib.hid ha
        have HY := Lib.hid hy
        have halt : a < s.size := by omega
        have HBA := Lib.hid (by_eq s a halt)
        clear hx hy hka ha hX
        have hblk2 : wr.heap[w.heap.size]? = some (.cells #[.int .i64 x, .int .i64 ((i - k : Nat) : Int), .int .u8 0] 72 (0, 0)) := by
          have := hN.blk
          rw [HY.out, HA.out] at this
          exact this
        by_cases hd : (48 ≤ (s[i].toNat : Int) ∧ (s[i].toNat : Int) ≤ 57) ∧ ¬ (s[a].toNat : Int) = 48
        · obtain ⟨⟨hd1, hd2⟩, hz⟩ := hd
          have hz1 : ((s[a].toNat : Int) != 48) = true := by simpa using hz
          have hdd : isd (by_ s i) := by have := HBE.out; unfold isd; omega
          have hnz : 0 < k → by_ s (i - k) ≠ 48 := fun _ => by have := HBA.out; have := HA.out; rw [← HA.out]; omega
          have HNZ := Lib.hid hz
          clear hz
          by_cases hv : x < 100000
          · have HXV : Hid (10 * x + ((s[i].toNat : Int) - 48) = (rv s (i - k) (k + 1) : Int)) := by
              have h1 := HX.out
              have h2 := HBE.out
              have h3 := HKA.out
              have h4 := HA.out
              unfold Hid
              rw [rv, if_pos (by omega), show i - k + k = i from by omega]
              obtain ⟨g1, g2⟩ := hdd
              omega
            go_wp2
            go_roundw
            case rel => exact ⟨pre, A, c, i + 1, k + 1, T, 10 * x + ((s[i].toNat : Int) - 48), ((i - k : Nat) : Int), 0, rfl, rfl, by go_num, by go_num, frel_digit hN hlt hdd hnz HXV.out (own_set hN.own (Nat.lt_succ_self _) _) (hs_same hblk2 0 _) (bl_s hN.bl (Nat.le_refl _) _)⟩
            case measure => simp [intOf]; omega
          · have HXV : Hid (x = (rv s (i - k) (k + 1) : Int)) := by
              have h1 := HX.out
              unfold Hid
              rw [rv, if_neg (by omega)]
              exact h1
            go_wp2
            go_roundw
            case rel => exact ⟨pre, A, c, i + 1, k + 1, T, x, ((i - k : Nat) : Int), 0, rfl, rfl, by go_num, by go_num, frel_digit hN hlt hdd hnz HXV.out hN.own hblk2 hN.bl⟩
            case measure => simp [intOf]; omega
        · have hE : DEnd s (i - k) i := by
            refine ⟨by omega, hi, hN.ds, ?_⟩
            have h1 := HBE.out
            have h2 := HBA.out
            have h3 := HA.out
            have h4 := HKA.out
            by_cases h48 : by_ s (i - k) = 48
            · refine .inl ⟨?_, h48⟩
              have := hN.nz
              have : ¬ 1 < k := fun h => this h h48
              omega
            · refine .inr ⟨fun _ => h48, fun _ h5 => hd ⟨?_, ?_⟩⟩
              · rw [h1] at h5; unfold isd at h5; omega
              · rw [← h3] at h48; omega
          have hw : ((48 ≤ (s[i].toNat : Int) ∧ (s[i].toNat : Int) ≤ 57) ∧ (s[a].toNat : Int) = 48) ∨ ¬ (48 ≤ (s[i].toNat : Int) ∧ (s[i].toNat : Int) ≤ 57) := by omega
          have HD := Lib.hid hd
          clear hd
          by_cases hA : aft T s[i].toNat = true
          · by_cases h45 : ((s[i].toNat : Int) == 45) = true
            · have h45' : ((s[i].toNat : Int) == 45) = true := by simpa using h45
              clear h45
              have HN45 : Hid (nxt s[i].toNat = 2) := by
                unfold Hid nxt
                have h45'' := h45'
                simp at h45''
                rw [if_pos (by omega)]
              rcases hw with ⟨⟨hd1, hd2⟩, hz⟩ | hd
              · have hz1 : ((s[a].toNat : Int) != 48) = false := by simpa using hz
                have HZ := Lib.hid hz
                clear hz
                exfalso
                simp at h45'
                omega
              · go_wp2_with (first | (go_at_call 60; refine (after_any T s[i].toNat _).mono ?_; rintro e w' ⟨rfl, rfl⟩) | (at_builtin; refine app1 (w0 := w) (w.heap.size + 1) rfl _ _ _ 72 _ 3 24 rfl Try.underlying68 info_num rfl (by decide) (by decide) (.slice A pre.length c) pre.length (fcells s pre) _ rfl _ rfl ?hB ?hl ?h1 ?hO ?hbl ?hb1 ?hb2 ?hsz ?_; (case hB => first | rfl | simp); (case hl => rfl); (case h1 => simp [Value.oneCell']); (case hO => exact own_set hN.own (Nat.lt_succ_self _) _); (case hbl => exact bl_s hN.bl (Nat.le_refl _) _); (case hb1 => omega); (case hb2 => first | omega | (simp; omega)); (case hsz => omega); intro v2 w4 ho4 hb4 hg4))
                obtain ⟨A2, c2, hv2, hc2⟩ := own_slice ho4
                go_roundw
                case rel => exact ⟨pre ++ [⟨i - k, i, T⟩], A2, c2, i + 1, 0, nxt (by_ s i), x, y, s[i].toNat, by rw [hv2]; simp, by rw [HBE.out]; rw [HN45.out]; rfl, rfl, by go_num, frel_next hN hlt hE hk0 (by rw [HBE.out]; exact hA) (by rw [HBE.out, ← hv2, HY.out]; exact ho4) (blk_grown (hs_same hN.blk 2 _) hg4 (by intro e0; have := own_base hN.own _ e0.symm; omega)) hb4⟩
                case measure => simp [intOf]; omega
            · have h45' : ((s[i].toNat : Int) == 45) = false := by simpa using h45
              clear h45
              have HN45 : Hid (nxt s[i].toNat = 1) := by
                unfold Hid nxt
                have h45'' := h45'
                simp at h45''
                rw [if_neg (by omega)]
              rcases hw with ⟨⟨hd1, hd2⟩, hz⟩ | hd
              · have hz1 : ((s[a].toNat : Int) != 48) = false := by simpa using hz
                have HZ := Lib.hid hz
                clear hz
                go_wp2_with (first | (go_at_call 60; refine (after_any T s[i].toNat _).mono ?_; rintro e w' ⟨rfl, rfl⟩) | (at_builtin; refine app1 (w0 := w) (w.heap.size + 1) rfl _ _ _ 72 _ 3 24 rfl Try.underlying68 info_num rfl (by decide) (by decide) (.slice A pre.length c) pre.length (fcells s pre) _ rfl _ rfl ?hB ?hl ?h1 ?hO ?hbl ?hb1 ?hb2 ?hsz ?_; (case hB => first | rfl | simp); (case hl => rfl); (case h1 => simp [Value.oneCell']); (case hO => exact own_set hN.own (Nat.lt_succ_self _) _); (case hbl => exact bl_s hN.bl (Nat.le_refl _) _); (case hb1 => omega); (case hb2 => first | omega | (simp; omega)); (case hsz => omega); intro v2 w4 ho4 hb4 hg4))
                obtain ⟨A2, c2, hv2, hc2⟩ := own_slice ho4
                go_roundw
                case rel => exact ⟨pre ++ [⟨i - k, i, T⟩], A2, c2, i + 1, 0, nxt (by_ s i), x, y, s[i].toNat, by rw [hv2]; simp, by rw [HBE.out]; rw [HN45.out]; rfl, rfl, by go_num, frel_next hN hlt hE hk0 (by rw [HBE.out]; exact hA) (by rw [HBE.out, ← hv2, HY.out]; exact ho4) (blk_grown (hs_same hN.blk 2 _) hg4 (by intro e0; have := own_base hN.own _ e0.symm; omega)) hb4⟩
                case measure => simp [intOf]; omega
              · go_wp2_with (first | (go_at_call 60; refine (after_any T s[i].toNat _).mono ?_; rintro e w' ⟨rfl, rfl⟩) | (at_builtin; refine app1 (w0 := w) (w.heap.size + 1) rfl _ _ _ 72 _ 3 24 rfl Try.underlying68 info_num rfl (by decide) (by decide) (.slice A pre.length c) pre.length (fcells s pre) _ rfl _ rfl ?hB ?hl ?h1 ?hO ?hbl ?hb1 ?hb2 ?hsz ?_; (case hB => first | rfl | simp); (case hl => rfl); (case h1 => simp [Value.oneCell']); (case hO => exact own_set hN.own (Nat.lt_succ_self _) _); (case hbl => exact bl_s hN.bl (Nat.le_refl _) _); (case hb1 => omega); (case hb2 => first | omega | (simp; omega)); (case hsz => omega); intro v2 w4 ho4 hb4 hg4))
                all_goals
                  obtain ⟨A2, c2, hv2, hc2⟩ := own_slice ho4
                  go_roundw
                  case rel => exact ⟨pre ++ [⟨i - k, i, T⟩], A2, c2, i + 1, 0, nxt (by_ s i), x, y, s[i].toNat, by rw [hv2]; simp, by rw [HBE.out]; rw [HN45.out]; rfl, rfl, by go_num, frel_next hN hlt hE hk0 (by rw [HBE.out]; exact hA) (by rw [HBE.out, ← hv2, HY.out]; exact ho4) (blk_grown (hs_same hN.blk 2 _) hg4 (by intro e0; have := own_base hN.own _ e0.symm; omega)) hb4⟩
                  case measure => simp [intOf]; omega
          · have hA' : aft T s[i].toNat = false := by simpa using hA
            clear hA
            rcases hw with ⟨⟨hd1, hd2⟩, hz⟩ | hd
            · have hz1 : ((s[a].toNat : Int) != 48) = false := by simpa using hz
              have HZ := Lib.hid hz
              clear hz
              go_wp2_with (go_at_call 60; refine (after_any T s[i].toNat _).mono ?_; rintro e w' ⟨rfl, rfl⟩)
              all_goals
                go_ret2
                exact ⟨hN.bl, .inl ⟨i, part_bad hN.part (scan_bad hE (by omega) hlt (by rw [HBE.out]; exact hA')), hi, _, rfl⟩⟩
            · go_wp2_with (go_at_call 60; refine (after_any T s[i].toNat _).mono ?_; rintro e w' ⟨rfl, rfl⟩)
              all_goals
                go_ret2
                exact ⟨hN.bl, .inl ⟨i, part_bad hN.part (scan_bad hE (by omega) hlt (by rw [HBE.out]; exact hA')), hi, _, rfl⟩⟩
      · have hk00 : k = 0 := by omega
        subst hk00
        by_cases hd : 48 ≤ (s[i].toNat : Int) ∧ (s[i].toNat : Int) ≤ 57
        · obtain ⟨hd1, hd2⟩ := hd
          have hdd : isd (by_ s i) := by have := HBE.out; unfold isd; omega
          have HXV : Hid ((s[i].toNat : Int) - 48 = (rv s (i - 0) (0 + 1) : Int)) := by
            have h2 := HBE.out
            unfold Hid
            rw [rv, rv, if_pos (by omega), show i - 0 + 0 = i from by omega]
            obtain ⟨g1, g2⟩ := hdd
            omega
          go_wp2
          go_roundw
          case rel => exact ⟨pre, A, c, i + 1, 1, T, (s[i].toNat : Int) - 48, (i : Int), 0, rfl, rfl, rfl, by go_num, frel_digit hN hlt hdd (fun h => by omega) HXV.out (own_set (own_set (own_set (own_set hN.own (Nat.lt_succ_self _) _) (Nat.lt_succ_self _) _) (Nat.lt_succ_self _) _) (Nat.lt_succ_self _) _) (hs_same (hs_same (hs_same (hs_same hN.blk 0 _) 1 _) 2 _) 0 _) (bl_s (bl_s (bl_s (bl_s hN.bl (Nat.le_refl _) _) (Nat.le_refl _) _) (Nat.le_refl _) _) (Nat.le_refl _) _)⟩
          case measure => simp [intOf]; omega
        · have hE : DEnd s i i := ⟨Nat.le_refl _, hi, fun j h1 h2 => by omega, .inr ⟨fun h => by omega, fun _ h => by have := HBE.out; unfold isd at h; omega⟩⟩
          have HD := Lib.hid hd
          go_wp2
          all_goals
            go_ret2
            exact ⟨hN.bl, .inl ⟨i, part_bad hN.part (scan_none hE (fun hh => by omega)), hi, _, rfl⟩⟩
    · have hend : s.size ≤ i := by omega
      have hT := hN.hT
      by_cases hk0 : 0 < k
      · have hE : DEnd s (i - k) i := by
          refine ⟨by omega, hi, hN.ds, ?_⟩
          by_cases h48 : by_ s (i - k) = 48
          · refine .inl ⟨?_, h48⟩
            have := hN.nz
            have : ¬ 1 < k := fun h => this h h48
            omega
          · exact .inr ⟨fun _ => h48, fun h5 => by omega⟩
        obtain ⟨hx, hy, hz⟩ := hN.val hk0
        have HX := Lib.hid hx
        have HY := Lib.hid hy
        have HZ := Lib.hid hz
        clear hx hy hz
        by_cases hT0 : T = 0
        · have HT0 := Lib.hid hT0
          have hT1 : T ≤ 0 := by omega
          clear hT0 hT
          go_wp2
          go_ret2
          exact ⟨hN.bl, .inl ⟨s.size, (part_bad hN.part (scan_end0 hE (by omega) (by omega) HT0.out)).trans (congrArg some (by omega)), Nat.le_refl _, _, rfl⟩⟩
        · have hT1 : 0 < T := by omega
          have HT0 := Lib.hid hT0
          have HTT := Lib.hid hT
          clear hT0 hT
          go_wp2_with (at_builtin; refine app1 (w0 := w) (w.heap.size + 1) rfl _ _ _ 72 _ 3 24 rfl Try.underlying68 info_num rfl (by decide) (by decide) (.slice A pre.length c) pre.length (fcells s pre) _ rfl _ rfl ?hB ?hl ?h1 ?hO ?hbl ?hb1 ?hb2 ?hsz ?_; (case hB => first | rfl | simp); (case hl => rfl); (case h1 => simp [Value.oneCell']); (case hO => exact hN.own); (case hbl => exact hN.bl); (case hb1 => omega); (case hb2 => first | omega | (simp; omega)); (case hsz => omega); intro v2 w4 ho4 hb4 hg4)
          obtain ⟨A2, c2, hv2, hc2⟩ := own_slice ho4
          have hok := part_ok hN.part (scan_end hE (by omega) (by omega) HT0.out)
          have hl2 : (pre ++ [(⟨i - k, i, T⟩ : Tok)]).length = pre.length + 1 := by rw [List.length_append]; rfl
          have hfc : fcell s ⟨i - k, i, T⟩ = [.int .i64 x, .int .i64 y, .int .u8 z] := by
            unfold fcell behind
            rw [if_neg (by omega), HX.out, HY.out, HZ.out, show i - (i - k) = k from by omega]
            rfl
          go_ret2
          refine ⟨hb4, .inr ⟨hok.1, A2, c2, ?_, ?_⟩⟩
          · rw [hok.2, hl2, hv2]
            rfl
          · rw [hok.2, hl2, fcells_snoc, hfc, ← hv2]
            exact own_lower ho4 (by omega)
      · have hk00 : k = 0 := by omega
        subst hk00
        have hE : DEnd s i i := ⟨Nat.le_refl _, hi, fun j h1 h2 => by omega, .inr ⟨fun h => by omega, fun h => by omega⟩⟩
        have HTT := Lib.hid hT
        clear hT
        by_cases hf : pre.length = 1 ∧ T = 1
        · obtain ⟨hf1, hf2⟩ := hf
          have g1 : pre.length ≤ 1 := by omega
          have g2 : 1 ≤ pre.length := by omega
          have g3 : T ≤ 1 := by omega
          have g4 : 1 ≤ T := by omega
          have hok := part_ok hN.part (scan_fin hE (by omega) hf2 (by rw [beq_iff_eq]; exact hf1))
          have HOK := Lib.hid hok
          clear hok hf1 hf2
          go_wp2
          go_ret2
          refine ⟨hN.bl, .inr ⟨HOK.out.1, A, c, ?_, ?_⟩⟩
          · rw [HOK.out.2, List.append_nil]
            rfl
          · rw [HOK.out.2, List.append_nil]; exact own_lower hN.own (by omega)
        · have hsc := part_bad hN.part (scan_none hE (fun hh => hf ⟨by have := hh.2.2; rw [beq_iff_eq] at this; exact this, hh.2.1⟩))
          have HSC := Lib.hid hsc
          have hcase : pre.length ≤ 0 ∨ 1 < pre.length ∨ (pre.length ≤ 1 ∧ 1 ≤ pre.length ∧ T ≤ 0) ∨ (pre.length ≤ 1 ∧ 1 ≤ pre.length ∧ 1 < T) := by omega
          clear hsc hf
          rcases hcase with g | g | ⟨g1, g2, g3⟩ | ⟨g1, g2, g3⟩
          all_goals
            go_wp2
            go_ret2
            exact ⟨hN.bl, .inl ⟨s.size, HSC.out.trans (congrArg some (by omega)), Nat.le_refl _, _, rfl⟩⟩
end Go.Proofs.Ytlmjfcieiengcaa
