/- bitset.numbers: the numbers of a text that has the form, or the place at which nothing goes on. The text has at most 65536 bytes. -/
import Derived.Test.YtlmjfcieiengcaaDigits
namespace Go.Proofs.Ytlmjfcieiengcaa
open Go.RowKit
theorem info_number : (Try.prog.info? 63).map (fun i => (i.zero, i.size, i.bytes)) = some (some (.agg #[.int .i64 0, .int .i64 0, .bool false]), 3, 24) := by kernel_rfl
def tcell (s : ByteArray) (t : Tok) : List Value := [.int .i64 (cv s t.a (t.e - t.a)), .int .i64 t.a, .bool (t.t == 2)]
def tcells (s : ByteArray) (l : List Tok) : List Value := l.flatMap (tcell s)
theorem tcells_snoc (s : ByteArray) (l : List Tok) (t : Tok) : tcells s (l ++ [t]) = tcells s l ++ tcell s t := by simp [tcells]
theorem tcells_get (s : ByteArray) (l : List Tok) (j : Nat) (hj : j < l.length) : (tcells s l)[j * 3]? = some (.int .i64 (cv s l[j].a (l[j].e - l[j].a))) ∧ (tcells s l)[j * 3 + 1]? = some (.int .i64 l[j].a) ∧ (tcells s l)[j * 3 + 2]? = some (.bool (l[j].t == 2)) := by
  induction l generalizing j with
  | nil => simp at hj
  | cons x l ih =>
    cases j with
    | zero => exact ⟨rfl, rfl, rfl⟩
    | succ j =>
      have h := ih j (by simpa using hj)
      have e : tcells s (x :: l) = tcell s x ++ tcells s l := rfl
      have e0 : (j + 1) * 3 = 3 + j * 3 := by omega
      simp only [List.getElem_cons_succ]
      refine ⟨?_, ?_, ?_⟩
      · rw [e, List.getElem?_append_right (by simp [tcell]; omega)]; simpa [tcell, e0] using h.1
      · rw [e, List.getElem?_append_right (by simp [tcell]; omega)]
        have : (j + 1) * 3 + 1 - (tcell s x).length = j * 3 + 1 := by simp [tcell]; omega
        rw [this]; exact h.2.1
      · rw [e, List.getElem?_append_right (by simp [tcell]; omega)]
        have : (j + 1) * 3 + 2 - (tcell s x).length = j * 3 + 2 := by simp [tcell]; omega
        rw [this]; exact h.2.2
/-- what numbers answers -/
def NumPost (s : ByteArray) (w : World) (x : Ending) (w' : World) : Prop :=
  Below w.heap.size w w' ∧ ((∃ p, (scan s 0 0 false).2 = some p ∧ p ≤ s.size ∧ x = .returned (.tuple #[.slice none 0 0, .int .i64 p])) ∨
    ((scan s 0 0 false).2 = none ∧ ∃ A c, x = .returned (.tuple #[.slice A (scan s 0 0 false).1.length c, .int .i64 (-1)]) ∧ w'.ownsRow w.heap.size 63 3 (.slice A (scan s 0 0 false).1.length c) (scan s 0 0 false).1.length (tcells s (scan s 0 0 false).1)))
structure NRel (w wr : World) (s : ByteArray) (G : Nat) (A : Option Addr) (c a : Nat) (pre : List Tok) : Prop where
  part : Part s pre a (nxt (by_ s (a - 1))) (pre.length == 1)
  hp : 1 ≤ pre.length
  hpa : pre.length ≤ a
  ha : 1 ≤ a
  ha2 : a ≤ s.size
  h58 : pre.length ≤ 1 → by_ s (a - 1) = 58
  own : wr.ownsRow (G + 1) 63 3 (.slice A pre.length c) pre.length (tcells s pre)
  blk : ∃ (c0 c1 : Int) (c2 : Bool), wr.heap[G]? = some (.cells #[.int .i64 c0, .int .i64 c1, .bool c2] 63 (0, 0))
  bl : Below w.heap.size w wr
theorem nrel_below {w wr w3 : World} {s : ByteArray} {G : Nat} {A : Option Addr} {c a : Nat} {pre : List Tok} (h : NRel w wr s G A c a pre) (hb : Below wr.heap.size wr w3) : NRel w w3 s G A c a pre := by
  obtain ⟨c0, c1, c2, hc⟩ := h.blk
  exact ⟨h.part, h.hp, h.hpa, h.ha, h.ha2, h.h58, own_below h.own hb, ⟨c0, c1, c2, (hb.block G (blk_lt hc)).trans hc⟩, bl_t h.bl hb⟩
theorem tcell_eq {s : ByteArray} {a e : Nat} {L : Bool} {T : Nat} (hL : L = (T == 2)) : [Value.int .i64 (cv s a (e - a)), .int .i64 a, .bool L] = tcell s ⟨a, e, T⟩ := by subst hL; rfl
theorem nrel_next {w wr w4 : World} {s : ByteArray} {G : Nat} {A A' : Option Addr} {c c' a e : Nat} {pre : List Tok} {L : Bool} (h : NRel w wr s G A c a pre) (hE : DEnd s a e) (hlt : a < e) (h1 : e < s.size)
    (haft : aft (nxt (by_ s (a - 1))) (by_ s e) = true) (hL : L = (nxt (by_ s (a - 1)) == 2))
    (hown : w4.ownsRow (G + 1) 63 3 (.slice A' (pre.length + 1) c') (pre.length + 1) (tcells s pre ++ [.int .i64 (cv s a (e - a)), .int .i64 a, .bool L]))
    (hblk : ∃ (c0 c1 : Int) (c2 : Bool), w4.heap[G]? = some (.cells #[.int .i64 c0, .int .i64 c1, .bool c2] 63 (0, 0))) (hbl : Below w.heap.size w w4) : NRel w w4 s G A' c' (e + 1) (pre ++ [⟨a, e, nxt (by_ s (a - 1))⟩]) := by
  have hp := h.hp
  have hpa := h.hpa
  have hT : (nxt (by_ s (a - 1)) == 0) = false := by unfold nxt; split <;> rfl
  have hl : (pre ++ [(⟨a, e, nxt (by_ s (a - 1))⟩ : Tok)]).length = pre.length + 1 := by rw [List.length_append]; rfl
  have hpt := part_go h.part hE hlt h1 haft
  rw [hT] at hpt
  refine ⟨?_, by rw [hl]; omega, by rw [hl]; omega, by omega, by omega, fun hx => absurd hx (by rw [hl]; omega), ?_, hblk, hbl⟩
  · rw [hl]
    have : (pre.length + 1 == 1) = false := by rw [beq_eq_false_iff_ne]; omega
    rw [this]
    simpa using hpt
  · rw [hl, tcells_snoc, ← tcell_eq hL]
    exact hown
set_option maxHeartbeats 10000000 in
theorem numbers_any (s : ByteArray) (w : World) (hs : s.size ≤ 65536) :
    Calls Try.prog 32 #[.string s] w (NumPost s w) := by
  go_enter Try.func32, Try.ntmps32
  go_wp2_with fail
  refine (digits_any s 0 _ hs (Nat.zero_le _)).mono ?_
  rintro x w1 ⟨e, hE, rfl, hb⟩
  have hE1 := hE.le
  have hE2 := hE.len
  by_cases h0 : 0 < e
  · by_cases h1 : e < s.size
    · by_cases h2 : (s[e].toNat : Int) = 58
      · have h2' : ((s[e].toNat : Int) != 58) = false := by simpa using h2
        have HE58 : Hid (by_ s e = 58) := by unfold Hid; rw [by_eq s e h1]; omega
        clear h2
        go_wp2_with (at_builtin; refine app1 (w0 := w) (w1.heap.size + 1) rfl _ _ _ 63 _ 3 24 rfl Try.underlying58 info_number rfl (by decide) (by decide) (.slice none 0 0) 0 [] [.int .i64 (cv s 0 e), .int .i64 0, .bool false] rfl _ rfl (by simp) rfl (by simp [Value.oneCell']) (World.ownsRow_nil _ _ _ _) (bl_a hb _) (by have := hb.size; omega) (by simp) (by decide) ?_; intro v1 w2 ho hb2 hg2)
        obtain ⟨A1, c1, hv1, hc1⟩ := own_slice ho
        have HV1 := Lib.hid hv1
        clear hv1
        have hG : w.heap.size ≤ w1.heap.size := hb.size
        go_loopw [4, 6, 7, 8] (fun l at_ _ _ wr => ∃ (pre : List Tok) (a c : Nat) (A : Option Addr), l = .slice A pre.length c ∧ at_ = .int .i64 a ∧ NRel w wr s w1.heap.size A c a pre) (fun _ at_ _ _ _ => s.size + 1 - (intOf at_).toNat)
        case atStart =>
          have hpt := part_go (part_start s) hE h0 h1 (by rw [HE58.out]; rfl)
          refine ⟨[⟨0, e, 0⟩], e + 1, c1, A1, HV1.out, by go_num, ?_, Nat.le_refl _, by simp, by omega, by omega, fun _ => HE58.out, ?_, ?_, hb2⟩
          · exact hpt
          · have := HV1.out
            subst this
            exact ho
          · exact ⟨_, _, _, blk_grown (ha_new _ _ _ rfl) hg2 (by simp [Value.ownBlock])⟩
        case round =>
          obtain ⟨pre, a, c, A, rfl, rfl, hN⟩ := hrel
          have hp := hN.hp
          have hpa := hN.hpa
          have ha := hN.ha
          have ha2 := hN.ha2
          obtain ⟨n0, n1, n2, hblk⟩ := hN.blk
          obtain ⟨p0, p1, p2, f0, f1, f2, hg⟩ := blk3 hblk
          have hI1 := hN.own
          by_cases hfin : pre.length ≤ 1 ∧ s.size ≤ a
          · obtain ⟨hf1, hf2⟩ := hfin
            go_wp2
            have hT1 : nxt (by_ s (a - 1)) = 1 := by rw [hN.h58 hf1]; rfl
            have hok := part_ok hN.part (scan_fin ⟨Nat.le_refl _, ha2, fun i h1 h2 => by omega, .inr ⟨fun h => by omega, fun h => by omega⟩⟩ (by omega) hT1 (by rw [beq_iff_eq]; omega))
            go_ret2
            refine ⟨hN.bl, .inr ⟨hok.1, A, c, ?_, ?_⟩⟩
            · rw [hok.2]; simp
            · rw [hok.2, List.append_nil]; exact own_lower hN.own (by omega)
          · have hcase : (1 < pre.length ∧ by_ s (a - 1) = 45) ∨ (1 < pre.length ∧ by_ s (a - 1) ≠ 45) ∨ (pre.length ≤ 1 ∧ a < s.size) := by omega
            have HC : Hid (¬ (pre.length ≤ 1 ∧ s.size ≤ a)) := hfin
            clear hfin
            have hlt : a - 1 < s.size := by omega
            have hb1 := by_eq s (a - 1) hlt
            rcases hcase with ⟨hx, ht⟩ | hx
            · have ht' : ((s[a - 1].toNat : Int) == 45) = true := by simp; omega
              have HT2 : Hid (nxt (by_ s (a - 1)) = 2) := by rw [ht]; rfl
              have HL : Hid (true = (nxt (by_ s (a - 1)) == 2)) := by rw [ht]; rfl
              have HB1 := Lib.hid hb1
              clear ht hb1
              by_cases hq1 : a < s.size
              · go_wp2_with fail
                refine (digits_any s a _ hs ha2).mono ?_
                rintro x w3 ⟨e2, hE2, rfl, hb3⟩
                have hN3 := nrel_below hN hb3
                clear hblk p0 p1 p2 f0 f1 f2 hg hI1
                obtain ⟨n3, n4, n5, hblk⟩ := hN3.blk
                obtain ⟨p0, p1, p2, f0, f1, f2, hg⟩ := blk3 hblk
                have hE3 := hE2.le
                have hE4 := hE2.len
                by_cases hae : a < e2
                · by_cases hend : e2 < s.size
                  · have HBE := Lib.hid (by_eq s e2 hend)
                    by_cases c44 : s[e2].toNat = 44
                    · have h44 : ((s[e2].toNat : Int) != 44) = false := by simp [c44]
                      have HC44 := Lib.hid c44
                      clear c44
                      go_wp2_with (at_builtin; refine app1 (w0 := w) (w1.heap.size + 1) rfl _ _ _ 63 _ 3 24 rfl Try.underlying58 info_number rfl (by decide) (by decide) (.slice A pre.length c) pre.length (tcells s pre) _ rfl _ rfl ?hB ?hl ?h1 ?hO ?hbl ?hb1 ?hb2 ?hsz ?_; (case hB => simp); (case hl => rfl); (case h1 => simp [Value.oneCell']); (case hO => exact own_set (own_set (own_set (own_set hN3.own (Nat.lt_succ_self _) _) (Nat.lt_succ_self _) _) (Nat.lt_succ_self _) _) (Nat.lt_succ_self _) _); (case hbl => exact bl_s (bl_s (bl_s (bl_s hN3.bl hG _) hG _) hG _) hG _); (case hb1 => omega); (case hb2 => simp; omega); (case hsz => omega); intro v2 w4 ho4 hb4 hg4)
                      obtain ⟨A2, c2, hv2, hc2⟩ := own_slice ho4
                      go_roundw
                      case rel => exact ⟨pre ++ [⟨a, e2, nxt (by_ s (a - 1))⟩], e2 + 1, c2, A2, by rw [hv2]; simp, by go_num, nrel_next hN3 hE2 hae hend (by rw [HBE.out, HC44.out]; unfold aft nxt; split <;> rfl) HL.out (by rw [← hv2]; exact ho4) ⟨_, _, _, blk_grown (hs_same (hs_same (hs_same (hs_same hblk 0 _) 1 _) 2 _) 2 _) hg4 (by intro e0; have := own_base hN3.own _ e0.symm; omega)⟩ hb4⟩
                      case measure => simp [intOf]; omega
                    · have h44 : ((s[e2].toNat : Int) != 44) = true := by simp; omega
                      by_cases c45 : s[e2].toNat = 45
                      · have h45 : ((s[e2].toNat : Int) != 45) = false := by simp [c45]
                        have HC45 := Lib.hid c45
                        have HC44 := Lib.hid c44
                        clear c44 c45
                        go_wp2_with (at_builtin; refine app1 (w0 := w) (w1.heap.size + 1) rfl _ _ _ 63 _ 3 24 rfl Try.underlying58 info_number rfl (by decide) (by decide) (.slice A pre.length c) pre.length (tcells s pre) _ rfl _ rfl ?hB ?hl ?h1 ?hO ?hbl ?hb1 ?hb2 ?hsz ?_; (case hB => simp); (case hl => rfl); (case h1 => simp [Value.oneCell']); (case hO => exact own_set (own_set (own_set (own_set hN3.own (Nat.lt_succ_self _) _) (Nat.lt_succ_self _) _) (Nat.lt_succ_self _) _) (Nat.lt_succ_self _) _); (case hbl => exact bl_s (bl_s (bl_s (bl_s hN3.bl hG _) hG _) hG _) hG _); (case hb1 => omega); (case hb2 => simp; omega); (case hsz => omega); intro v2 w4 ho4 hb4 hg4)
                        go_ret2
                        exact ⟨hb4, .inl ⟨e2, part_bad hN3.part (scan_bad hE2 hae hend (by rw [HT2.out, HBE.out, HC45.out]; rfl)), hE4, rfl⟩⟩
                      · have h45 : ((s[e2].toNat : Int) != 45) = true := by simp; omega
                        have HC45 := Lib.hid c45
                        have HC44 := Lib.hid c44
                        clear c44 c45
                        go_wp2_with (at_builtin; refine app1 (w0 := w) (w1.heap.size + 1) rfl _ _ _ 63 _ 3 24 rfl Try.underlying58 info_number rfl (by decide) (by decide) (.slice A pre.length c) pre.length (tcells s pre) _ rfl _ rfl ?hB ?hl ?h1 ?hO ?hbl ?hb1 ?hb2 ?hsz ?_; (case hB => simp); (case hl => rfl); (case h1 => simp [Value.oneCell']); (case hO => exact own_set (own_set (own_set (own_set hN3.own (Nat.lt_succ_self _) _) (Nat.lt_succ_self _) _) (Nat.lt_succ_self _) _) (Nat.lt_succ_self _) _); (case hbl => exact bl_s (bl_s (bl_s (bl_s hN3.bl hG _) hG _) hG _) hG _); (case hb1 => omega); (case hb2 => simp; omega); (case hsz => omega); intro v2 w4 ho4 hb4 hg4)
                        go_ret2
                        exact ⟨hb4, .inl ⟨e2, part_bad hN3.part (scan_bad hE2 hae hend (by rw [HT2.out]; unfold aft; have := HC45.out; have := HC44.out; have := HBE.out; simp; omega)), hE4, rfl⟩⟩
                  · go_wp2_with (at_builtin; refine app1 (w0 := w) (w1.heap.size + 1) rfl _ _ _ 63 _ 3 24 rfl Try.underlying58 info_number rfl (by decide) (by decide) (.slice A pre.length c) pre.length (tcells s pre) _ rfl _ rfl ?hB ?hl ?h1 ?hO ?hbl ?hb1 ?hb2 ?hsz ?_; (case hB => simp); (case hl => rfl); (case h1 => simp [Value.oneCell']); (case hO => exact own_set (own_set (own_set (own_set hN3.own (Nat.lt_succ_self _) _) (Nat.lt_succ_self _) _) (Nat.lt_succ_self _) _) (Nat.lt_succ_self _) _); (case hbl => exact bl_s (bl_s (bl_s (bl_s hN3.bl hG _) hG _) hG _) hG _); (case hb1 => omega); (case hb2 => simp; omega); (case hsz => omega); intro v2 w4 ho4 hb4 hg4)
                    obtain ⟨A2, c2, hv2, hc2⟩ := own_slice ho4
                    have hok := part_ok hN3.part (scan_end hE2 hae (by omega) (by rw [HT2.out]; decide))
                    have hl2 : (pre ++ [(⟨a, e2, nxt (by_ s (a - 1))⟩ : Tok)]).length = pre.length + 1 := by rw [List.length_append]; rfl
                    go_ret2
                    refine ⟨hb4, .inr ⟨hok.1, A2, c2, ?_, ?_⟩⟩
                    · rw [hok.2, hl2, hv2]
                      rfl
                    · rw [hok.2, hl2, tcells_snoc, ← tcell_eq HL.out, ← hv2]
                      exact own_lower ho4 (by omega)
                · have he2 : e2 = a := by omega
                  have HE2 := Lib.hid he2
                  have hE5 : DEnd s a a := by rw [he2] at hE2; exact hE2
                  clear he2
                  have hnl : ¬ a < e2 := by omega
                  go_wp2
                  go_ret2
                  refine ⟨bl_s (bl_s (bl_s hN3.bl hG _) hG _) hG _, .inl ⟨e2, ?_, hE4, rfl⟩⟩
                  rw [HE2.out]
                  exact part_bad hN3.part (scan_none hE5 (fun hh => HC.out ⟨by have := hh.2.2; rw [beq_iff_eq] at this; omega, by omega⟩))
              · go_wp2_with fail
                refine (digits_any s a _ hs ha2).mono ?_
                rintro x w3 ⟨e2, hE2, rfl, hb3⟩
                have hN3 := nrel_below hN hb3
                clear hblk p0 p1 p2 f0 f1 f2 hg hI1
                obtain ⟨n3, n4, n5, hblk⟩ := hN3.blk
                obtain ⟨p0, p1, p2, f0, f1, f2, hg⟩ := blk3 hblk
                have hE3 := hE2.le
                have hE4 := hE2.len
                have he2 : e2 = a := by omega
                have HE2 := Lib.hid he2
                have hE5 : DEnd s a a := by rw [he2] at hE2; exact hE2
                clear he2
                have hnl : ¬ a < e2 := by omega
                go_wp2
                go_ret2
                refine ⟨bl_s (bl_s (bl_s hN3.bl hG _) hG _) hG _, .inl ⟨e2, ?_, hE4, rfl⟩⟩
                rw [HE2.out]
                exact part_bad hN3.part (scan_none hE5 (fun hh => HC.out ⟨by have := hh.2.2; rw [beq_iff_eq] at this; omega, by omega⟩))
            · have HT2 : Hid (nxt (by_ s (a - 1)) = 1) := by
                unfold Hid nxt
                rw [if_neg]
                rcases hx with ⟨hx, ht⟩ | ⟨hx, hx2⟩
                · exact ht
                · rw [hN.h58 hx]; decide
              have HL : Hid (false = (nxt (by_ s (a - 1)) == 2)) := by rw [HT2.out]; rfl
              rcases hx with ⟨hx, ht⟩ | ⟨hx, hx2⟩
              · have ht' : ((s[a - 1].toNat : Int) == 45) = false := by simp; omega
                have HB1 := Lib.hid hb1
                clear ht hb1
                by_cases hq1 : a < s.size
                · go_wp2_with fail
                  refine (digits_any s a _ hs ha2).mono ?_
                  rintro x w3 ⟨e2, hE2, rfl, hb3⟩
                  have hN3 := nrel_below hN hb3
                  clear hblk p0 p1 p2 f0 f1 f2 hg hI1
                  obtain ⟨n3, n4, n5, hblk⟩ := hN3.blk
                  obtain ⟨p0, p1, p2, f0, f1, f2, hg⟩ := blk3 hblk
                  have hE3 := hE2.le
                  have hE4 := hE2.len
                  by_cases hae : a < e2
                  · by_cases hend : e2 < s.size
                    · have HBE := Lib.hid (by_eq s e2 hend)
                      by_cases c44 : s[e2].toNat = 44
                      · have h44 : ((s[e2].toNat : Int) != 44) = false := by simp [c44]
                        have HC44 := Lib.hid c44
                        clear c44
                        go_wp2_with (at_builtin; refine app1 (w0 := w) (w1.heap.size + 1) rfl _ _ _ 63 _ 3 24 rfl Try.underlying58 info_number rfl (by decide) (by decide) (.slice A pre.length c) pre.length (tcells s pre) _ rfl _ rfl ?hB ?hl ?h1 ?hO ?hbl ?hb1 ?hb2 ?hsz ?_; (case hB => simp); (case hl => rfl); (case h1 => simp [Value.oneCell']); (case hO => exact own_set (own_set (own_set (own_set hN3.own (Nat.lt_succ_self _) _) (Nat.lt_succ_self _) _) (Nat.lt_succ_self _) _) (Nat.lt_succ_self _) _); (case hbl => exact bl_s (bl_s (bl_s (bl_s hN3.bl hG _) hG _) hG _) hG _); (case hb1 => omega); (case hb2 => simp; omega); (case hsz => omega); intro v2 w4 ho4 hb4 hg4)
                        obtain ⟨A2, c2, hv2, hc2⟩ := own_slice ho4
                        go_roundw
                        case rel => exact ⟨pre ++ [⟨a, e2, nxt (by_ s (a - 1))⟩], e2 + 1, c2, A2, by rw [hv2]; simp, by go_num, nrel_next hN3 hE2 hae hend (by rw [HBE.out, HC44.out]; unfold aft nxt; split <;> rfl) HL.out (by rw [← hv2]; exact ho4) ⟨_, _, _, blk_grown (hs_same (hs_same (hs_same (hs_same hblk 0 _) 1 _) 2 _) 2 _) hg4 (by intro e0; have := own_base hN3.own _ e0.symm; omega)⟩ hb4⟩
                        case measure => simp [intOf]; omega
                      · have h44 : ((s[e2].toNat : Int) != 44) = true := by simp; omega
                        by_cases c45 : s[e2].toNat = 45
                        · have h45 : ((s[e2].toNat : Int) != 45) = false := by simp [c45]
                          have HC45 := Lib.hid c45
                          have HC44 := Lib.hid c44
                          clear c44 c45
                          go_wp2_with (at_builtin; refine app1 (w0 := w) (w1.heap.size + 1) rfl _ _ _ 63 _ 3 24 rfl Try.underlying58 info_number rfl (by decide) (by decide) (.slice A pre.length c) pre.length (tcells s pre) _ rfl _ rfl ?hB ?hl ?h1 ?hO ?hbl ?hb1 ?hb2 ?hsz ?_; (case hB => simp); (case hl => rfl); (case h1 => simp [Value.oneCell']); (case hO => exact own_set (own_set (own_set (own_set hN3.own (Nat.lt_succ_self _) _) (Nat.lt_succ_self _) _) (Nat.lt_succ_self _) _) (Nat.lt_succ_self _) _); (case hbl => exact bl_s (bl_s (bl_s (bl_s hN3.bl hG _) hG _) hG _) hG _); (case hb1 => omega); (case hb2 => simp; omega); (case hsz => omega); intro v2 w4 ho4 hb4 hg4)
                          obtain ⟨A2, c2, hv2, hc2⟩ := own_slice ho4
                          go_roundw
                          case rel => exact ⟨pre ++ [⟨a, e2, nxt (by_ s (a - 1))⟩], e2 + 1, c2, A2, by rw [hv2]; simp, by go_num, nrel_next hN3 hE2 hae hend (by rw [HT2.out, HBE.out, HC45.out]; rfl) HL.out (by rw [← hv2]; exact ho4) ⟨_, _, _, blk_grown (hs_same (hs_same (hs_same (hs_same hblk 0 _) 1 _) 2 _) 2 _) hg4 (by intro e0; have := own_base hN3.own _ e0.symm; omega)⟩ hb4⟩
                          case measure => simp [intOf]; omega
                        · have h45 : ((s[e2].toNat : Int) != 45) = true := by simp; omega
                          have HC45 := Lib.hid c45
                          have HC44 := Lib.hid c44
                          clear c44 c45
                          go_wp2_with (at_builtin; refine app1 (w0 := w) (w1.heap.size + 1) rfl _ _ _ 63 _ 3 24 rfl Try.underlying58 info_number rfl (by decide) (by decide) (.slice A pre.length c) pre.length (tcells s pre) _ rfl _ rfl ?hB ?hl ?h1 ?hO ?hbl ?hb1 ?hb2 ?hsz ?_; (case hB => simp); (case hl => rfl); (case h1 => simp [Value.oneCell']); (case hO => exact own_set (own_set (own_set (own_set hN3.own (Nat.lt_succ_self _) _) (Nat.lt_succ_self _) _) (Nat.lt_succ_self _) _) (Nat.lt_succ_self _) _); (case hbl => exact bl_s (bl_s (bl_s (bl_s hN3.bl hG _) hG _) hG _) hG _); (case hb1 => omega); (case hb2 => simp; omega); (case hsz => omega); intro v2 w4 ho4 hb4 hg4)
                          go_ret2
                          exact ⟨hb4, .inl ⟨e2, part_bad hN3.part (scan_bad hE2 hae hend (by rw [HT2.out]; unfold aft; have := HC45.out; have := HC44.out; have := HBE.out; simp; omega)), hE4, rfl⟩⟩
                    · go_wp2_with (at_builtin; refine app1 (w0 := w) (w1.heap.size + 1) rfl _ _ _ 63 _ 3 24 rfl Try.underlying58 info_number rfl (by decide) (by decide) (.slice A pre.length c) pre.length (tcells s pre) _ rfl _ rfl ?hB ?hl ?h1 ?hO ?hbl ?hb1 ?hb2 ?hsz ?_; (case hB => simp); (case hl => rfl); (case h1 => simp [Value.oneCell']); (case hO => exact own_set (own_set (own_set (own_set hN3.own (Nat.lt_succ_self _) _) (Nat.lt_succ_self _) _) (Nat.lt_succ_self _) _) (Nat.lt_succ_self _) _); (case hbl => exact bl_s (bl_s (bl_s (bl_s hN3.bl hG _) hG _) hG _) hG _); (case hb1 => omega); (case hb2 => simp; omega); (case hsz => omega); intro v2 w4 ho4 hb4 hg4)
                      obtain ⟨A2, c2, hv2, hc2⟩ := own_slice ho4
                      have hok := part_ok hN3.part (scan_end hE2 hae (by omega) (by rw [HT2.out]; decide))
                      have hl2 : (pre ++ [(⟨a, e2, nxt (by_ s (a - 1))⟩ : Tok)]).length = pre.length + 1 := by rw [List.length_append]; rfl
                      go_ret2
                      refine ⟨hb4, .inr ⟨hok.1, A2, c2, ?_, ?_⟩⟩
                      · rw [hok.2, hl2, hv2]
                        rfl
                      · rw [hok.2, hl2, tcells_snoc, ← tcell_eq HL.out, ← hv2]
                        exact own_lower ho4 (by omega)
                  · have he2 : e2 = a := by omega
                    have HE2 := Lib.hid he2
                    have hE5 : DEnd s a a := by rw [he2] at hE2; exact hE2
                    clear he2
                    have hnl : ¬ a < e2 := by omega
                    go_wp2
                    go_ret2
                    refine ⟨bl_s (bl_s (bl_s hN3.bl hG _) hG _) hG _, .inl ⟨e2, ?_, hE4, rfl⟩⟩
                    rw [HE2.out]
                    exact part_bad hN3.part (scan_none hE5 (fun hh => HC.out ⟨by have := hh.2.2; rw [beq_iff_eq] at this; omega, by omega⟩))
                · go_wp2_with fail
                  refine (digits_any s a _ hs ha2).mono ?_
                  rintro x w3 ⟨e2, hE2, rfl, hb3⟩
                  have hN3 := nrel_below hN hb3
                  clear hblk p0 p1 p2 f0 f1 f2 hg hI1
                  obtain ⟨n3, n4, n5, hblk⟩ := hN3.blk
                  obtain ⟨p0, p1, p2, f0, f1, f2, hg⟩ := blk3 hblk
                  have hE3 := hE2.le
                  have hE4 := hE2.len
                  have he2 : e2 = a := by omega
                  have HE2 := Lib.hid he2
                  have hE5 : DEnd s a a := by rw [he2] at hE2; exact hE2
                  clear he2
                  have hnl : ¬ a < e2 := by omega
                  go_wp2
                  go_ret2
                  refine ⟨bl_s (bl_s (bl_s hN3.bl hG _) hG _) hG _, .inl ⟨e2, ?_, hE4, rfl⟩⟩
                  rw [HE2.out]
                  exact part_bad hN3.part (scan_none hE5 (fun hh => HC.out ⟨by have := hh.2.2; rw [beq_iff_eq] at this; omega, by omega⟩))
              · have HB1 := Lib.hid hb1
                clear hb1
                go_wp2_with fail
                refine (digits_any s a _ hs ha2).mono ?_
                rintro x w3 ⟨e2, hE2, rfl, hb3⟩
                have hN3 := nrel_below hN hb3
                clear hblk p0 p1 p2 f0 f1 f2 hg hI1
                obtain ⟨n3, n4, n5, hblk⟩ := hN3.blk
                obtain ⟨p0, p1, p2, f0, f1, f2, hg⟩ := blk3 hblk
                have hE3 := hE2.le
                have hE4 := hE2.len
                by_cases hae : a < e2
                · by_cases hend : e2 < s.size
                  · have HBE := Lib.hid (by_eq s e2 hend)
                    by_cases c44 : s[e2].toNat = 44
                    · have h44 : ((s[e2].toNat : Int) != 44) = false := by simp [c44]
                      have HC44 := Lib.hid c44
                      clear c44
                      go_wp2_with (at_builtin; refine app1 (w0 := w) (w1.heap.size + 1) rfl _ _ _ 63 _ 3 24 rfl Try.underlying58 info_number rfl (by decide) (by decide) (.slice A pre.length c) pre.length (tcells s pre) _ rfl _ rfl ?hB ?hl ?h1 ?hO ?hbl ?hb1 ?hb2 ?hsz ?_; (case hB => simp); (case hl => rfl); (case h1 => simp [Value.oneCell']); (case hO => exact own_set (own_set (own_set (own_set hN3.own (Nat.lt_succ_self _) _) (Nat.lt_succ_self _) _) (Nat.lt_succ_self _) _) (Nat.lt_succ_self _) _); (case hbl => exact bl_s (bl_s (bl_s (bl_s hN3.bl hG _) hG _) hG _) hG _); (case hb1 => omega); (case hb2 => simp; omega); (case hsz => omega); intro v2 w4 ho4 hb4 hg4)
                      obtain ⟨A2, c2, hv2, hc2⟩ := own_slice ho4
                      go_roundw
                      case rel => exact ⟨pre ++ [⟨a, e2, nxt (by_ s (a - 1))⟩], e2 + 1, c2, A2, by rw [hv2]; simp, by go_num, nrel_next hN3 hE2 hae hend (by rw [HBE.out, HC44.out]; unfold aft nxt; split <;> rfl) HL.out (by rw [← hv2]; exact ho4) ⟨_, _, _, blk_grown (hs_same (hs_same (hs_same (hs_same hblk 0 _) 1 _) 2 _) 2 _) hg4 (by intro e0; have := own_base hN3.own _ e0.symm; omega)⟩ hb4⟩
                      case measure => simp [intOf]; omega
                    · have h44 : ((s[e2].toNat : Int) != 44) = true := by simp; omega
                      by_cases c45 : s[e2].toNat = 45
                      · have h45 : ((s[e2].toNat : Int) != 45) = false := by simp [c45]
                        have HC45 := Lib.hid c45
                        have HC44 := Lib.hid c44
                        clear c44 c45
                        go_wp2_with (at_builtin; refine app1 (w0 := w) (w1.heap.size + 1) rfl _ _ _ 63 _ 3 24 rfl Try.underlying58 info_number rfl (by decide) (by decide) (.slice A pre.length c) pre.length (tcells s pre) _ rfl _ rfl ?hB ?hl ?h1 ?hO ?hbl ?hb1 ?hb2 ?hsz ?_; (case hB => simp); (case hl => rfl); (case h1 => simp [Value.oneCell']); (case hO => exact own_set (own_set (own_set (own_set hN3.own (Nat.lt_succ_self _) _) (Nat.lt_succ_self _) _) (Nat.lt_succ_self _) _) (Nat.lt_succ_self _) _); (case hbl => exact bl_s (bl_s (bl_s (bl_s hN3.bl hG _) hG _) hG _) hG _); (case hb1 => omega); (case hb2 => simp; omega); (case hsz => omega); intro v2 w4 ho4 hb4 hg4)
                        obtain ⟨A2, c2, hv2, hc2⟩ := own_slice ho4
                        go_roundw
                        case rel => exact ⟨pre ++ [⟨a, e2, nxt (by_ s (a - 1))⟩], e2 + 1, c2, A2, by rw [hv2]; simp, by go_num, nrel_next hN3 hE2 hae hend (by rw [HT2.out, HBE.out, HC45.out]; rfl) HL.out (by rw [← hv2]; exact ho4) ⟨_, _, _, blk_grown (hs_same (hs_same (hs_same (hs_same hblk 0 _) 1 _) 2 _) 2 _) hg4 (by intro e0; have := own_base hN3.own _ e0.symm; omega)⟩ hb4⟩
                        case measure => simp [intOf]; omega
                      · have h45 : ((s[e2].toNat : Int) != 45) = true := by simp; omega
                        have HC45 := Lib.hid c45
                        have HC44 := Lib.hid c44
                        clear c44 c45
                        go_wp2_with (at_builtin; refine app1 (w0 := w) (w1.heap.size + 1) rfl _ _ _ 63 _ 3 24 rfl Try.underlying58 info_number rfl (by decide) (by decide) (.slice A pre.length c) pre.length (tcells s pre) _ rfl _ rfl ?hB ?hl ?h1 ?hO ?hbl ?hb1 ?hb2 ?hsz ?_; (case hB => simp); (case hl => rfl); (case h1 => simp [Value.oneCell']); (case hO => exact own_set (own_set (own_set (own_set hN3.own (Nat.lt_succ_self _) _) (Nat.lt_succ_self _) _) (Nat.lt_succ_self _) _) (Nat.lt_succ_self _) _); (case hbl => exact bl_s (bl_s (bl_s (bl_s hN3.bl hG _) hG _) hG _) hG _); (case hb1 => omega); (case hb2 => simp; omega); (case hsz => omega); intro v2 w4 ho4 hb4 hg4)
                        go_ret2
                        exact ⟨hb4, .inl ⟨e2, part_bad hN3.part (scan_bad hE2 hae hend (by rw [HT2.out]; unfold aft; have := HC45.out; have := HC44.out; have := HBE.out; simp; omega)), hE4, rfl⟩⟩
                  · go_wp2_with (at_builtin; refine app1 (w0 := w) (w1.heap.size + 1) rfl _ _ _ 63 _ 3 24 rfl Try.underlying58 info_number rfl (by decide) (by decide) (.slice A pre.length c) pre.length (tcells s pre) _ rfl _ rfl ?hB ?hl ?h1 ?hO ?hbl ?hb1 ?hb2 ?hsz ?_; (case hB => simp); (case hl => rfl); (case h1 => simp [Value.oneCell']); (case hO => exact own_set (own_set (own_set (own_set hN3.own (Nat.lt_succ_self _) _) (Nat.lt_succ_self _) _) (Nat.lt_succ_self _) _) (Nat.lt_succ_self _) _); (case hbl => exact bl_s (bl_s (bl_s (bl_s hN3.bl hG _) hG _) hG _) hG _); (case hb1 => omega); (case hb2 => simp; omega); (case hsz => omega); intro v2 w4 ho4 hb4 hg4)
                    obtain ⟨A2, c2, hv2, hc2⟩ := own_slice ho4
                    have hok := part_ok hN3.part (scan_end hE2 hae (by omega) (by rw [HT2.out]; decide))
                    have hl2 : (pre ++ [(⟨a, e2, nxt (by_ s (a - 1))⟩ : Tok)]).length = pre.length + 1 := by rw [List.length_append]; rfl
                    go_ret2
                    refine ⟨hb4, .inr ⟨hok.1, A2, c2, ?_, ?_⟩⟩
                    · rw [hok.2, hl2, hv2]
                      rfl
                    · rw [hok.2, hl2, tcells_snoc, ← tcell_eq HL.out, ← hv2]
                      exact own_lower ho4 (by omega)
                · have he2 : e2 = a := by omega
                  have HE2 := Lib.hid he2
                  have hE5 : DEnd s a a := by rw [he2] at hE2; exact hE2
                  clear he2
                  have hnl : ¬ a < e2 := by omega
                  go_wp2
                  go_ret2
                  refine ⟨bl_s (bl_s (bl_s hN3.bl hG _) hG _) hG _, .inl ⟨e2, ?_, hE4, rfl⟩⟩
                  rw [HE2.out]
                  exact part_bad hN3.part (scan_none hE5 (fun hh => HC.out ⟨by have := hh.2.2; rw [beq_iff_eq] at this; omega, by omega⟩))
      · have h2' : ((s[e].toNat : Int) != 58) = true := by simpa using h2
        have H2 := Lib.hid h2
        have HBE := Lib.hid (by_eq s e h1)
        clear h2
        go_wp2
        go_ret2
        exact ⟨bl_a hb _, .inl ⟨e, part_bad (part_start s) (scan_bad hE h0 h1 (by unfold aft; have := H2.out; have := HBE.out; simp; omega)), hE2, rfl⟩⟩
    · have hee : s.size ≤ e := by omega
      go_wp2
      go_ret2
      exact ⟨bl_a hb _, .inl ⟨s.size, (part_bad (part_start s) (scan_end0 hE h0 (by omega) rfl)).trans (congrArg some (by omega)), Nat.le_refl _, rfl⟩⟩
  · go_wp2
    go_ret2
    have he0 : e = 0 := by omega
    subst he0
    exact ⟨bl_a hb _, .inl ⟨0, part_bad (part_start s) (scan_none hE (fun hh => by simp at hh)), hE2, rfl⟩⟩
end Go.Proofs.Ytlmjfcieiengcaa
