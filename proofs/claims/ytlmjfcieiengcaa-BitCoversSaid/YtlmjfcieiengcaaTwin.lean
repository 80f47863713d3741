/- twin and kept of the statements: a set in new memory with a mark behind its words. The words are few enough for a slice of one more. -/
import Derived.Test.YtlmjfcieiengcaaMay
import Derived.Test.YtlmjfcieiengcaaBools
import Derived.Laws.AppendOwnNone
namespace Go.Proofs.Ytlmjfcieiengcaa
open Go.RowKit
theorem oneCell_enc (ws : List Nat) : ∀ u ∈ enc64 ws, u.oneCell' = true := by
  intro u hu
  simp only [enc64, List.mem_map] at hu
  obtain ⟨x, _, rfl⟩ := hu
  rfl
theorem enc_get (ws : List Nat) (j : Nat) (u : Value) (h : (enc64 ws)[j]? = some u) : j < ws.length ∧ u = .int .u64 (wd ws j) := by
  have hj : j < ws.length := by
    have := (List.getElem?_eq_some_iff.1 h).1
    simpa [enc64] using this
  refine ⟨hj, ?_⟩
  rw [wd_lt hj]
  simp only [enc64, List.getElem?_map, List.getElem?_eq_getElem hj] at h
  simpa using h.symm
theorem own_wb {w : World} {base g n m c : Nat} {ws : List Nat} (h : w.ownsRow base 75 1 (.slice (some ⟨g, 0, none⟩) m c) n (enc64 ws)) (hn : n = ws.length) : WB w g ws ∧ base ≤ g ∧ m = n ∧ n ≤ c := by
  rcases h.2 with ⟨h1, _⟩ | ⟨g', cap, cur, h1, hb, hh, hc, _, hs, ht⟩
  · cases h1
  · injection h1 with h1 h2 h3
    injection h1 with h1
    injection h1 with h1
    subst h1 h2 h3
    refine ⟨⟨cur.toList.drop (m * 1), hh.trans ?_⟩, hb, rfl, hc⟩
    congr 2
    rw [← Array.toList_inj]
    show cur.toList = enc64 ws ++ cur.toList.drop (m * 1)
    rw [← ht, List.take_append_drop]
theorem RdK.pre {k : IntKind} {w : World} {A : Option Addr} {ws xs : List Nat} (h : RdK k w A (ws ++ xs)) : RdK k w A ws := by
  intro j hj
  obtain ⟨b, off, h1, h2, h3⟩ := h j (by simp; omega)
  refine ⟨b, off, h1, h2, h3.trans ?_⟩
  unfold wd
  rw [List.getD_eq_getElem?_getD, List.getD_eq_getElem?_getD, List.getElem?_append_left hj]
section
variable {P : Program} {ops : Array Oper} {rest : List Oper} {o : Oper} {a : Act} {Q : Exit → Act → World → Prop}
/-- append(v, x...) of elements that are read -/
theorem appC {w0 W : World} (base : Nat) (hgd : o.guard = none) (s x : Operand) (t e : TypeId) (z : Value) (size bytes : Nat)
    (ho : o.op = .call { callee := .builtin .append, args := #[s, x], argTypes := #[t, t] })
    (ht : P.underlying t = some (.slice e)) (hinfo : (P.info? e).map (fun i => (i.zero, i.size, i.bytes)) = some (some z, size, bytes)) (hz : z.cells.size = size) (hs0 : 0 < size) (hb0 : 0 < bytes)
    (v : Value) (n : Nat) (xs : List Value) (hs : a.eval s = v) (A : Option Addr) (m c : Nat) (news : List Value) (hx : a.eval x = .slice A m c) (hln : news.length = m * size)
    (hr : ∀ j u, news[j]? = some u → ∃ b off, A = some ⟨b, off, none⟩ ∧ W.cell? ⟨b, off + j, none⟩ = some u) (h1 : ∀ u ∈ news, u.oneCell' = true) (hA : A = none → m = 0 ∧ c = 0)
    (HO : W.ownsRow base e size v n xs) (HB : Below w0.heap.size w0 W) (hb1 : w0.heap.size ≤ base) (hbase : base ≤ W.heap.size) (hl : (n + m) * bytes ≤ 140737488355328)
    (h : ∀ v1 w1, w1.ownsRow base e size v1 (n + m) (xs ++ news) → Below w0.heap.size w0 w1 → W.grownBy w1 v.ownBlock → (v1 = .slice none 0 0 → m = 0) → wpList P ops Q rest (a.put o.dst v1) w1) :
    wpList P ops Q (o :: rest) a W := by
  obtain ⟨i0, hi, hzz⟩ := Option.map_eq_some_iff.1 hinfo
  simp only [Prod.mk.injEq] at hzz
  obtain ⟨hz0, hz1, hz2⟩ := hzz
  have hlen : n + m ≤ 140737488355328 := Nat.le_trans (Nat.le_mul_of_pos_right _ hb0) hl
  cases A with
  | none =>
    obtain ⟨h0, hc⟩ := hA rfl
    subst h0
    subst hc
    have hw : news = [] := List.eq_nil_of_length_eq_zero (by simpa using hln)
    subst hw
    refine wpList_append_own_none hgd s x t ho base e i0 size ht hi v n xs hs HO hx ?_
    exact h v W (by simpa using HO) HB (grown_refl _ _) (fun _ => rfl)
  | some ad =>
    refine wpList_append_own_at W hgd s x t ho base e i0 z size bytes ht hi hz0 hz1 hz2 hz hs0 v n xs hs HO ad m c news hx hln ?_ h1 (by simp only [maxLen]; omega) hl hbase ?_
    · intro j u hj
      obtain ⟨b, off, hb, hc⟩ := hr j u hj
      injection hb with hb
      subst hb
      have : (⟨b, off, none⟩ : Addr).add j = ⟨b, off + j, none⟩ := by
        unfold Addr.add
        split
        · rename_i h; subst h; rfl
        · rfl
      rw [this]
      exact hc
    · intro v1 w1 hown hg hnil _
      exact h v1 w1 hown (HB.grown hg HB.size (fun k hk => Nat.le_trans hb1 (own_base HO k hk))) hg (fun hv => (hnil.1 hv).2)
theorem rd_news {W : World} {A : Option Addr} {ws : List Nat} (hr : Rd W A ws) : ∀ j u, (enc64 ws)[j]? = some u → ∃ b off, A = some ⟨b, off, none⟩ ∧ W.cell? ⟨b, off + j, none⟩ = some u := by
  intro j u hj
  obtain ⟨hj1, rfl⟩ := enc_get ws j u hj
  obtain ⟨b, off, hb, _, hc⟩ := hr j hj1
  exact ⟨b, off, hb, hc⟩
end
/-- xs[:m], xs[:m:k] -/
theorem cut_h {P : Program} (t e : TypeId) {i : TypeInfo} (ht : P.underlying t = some (.slice e)) (hi : P.info? e = some i) (a : Addr) (n c m : Nat) (hc : m ≤ c) (W : World) :
    (Instr.slice t (.slice (some a) n c) none (some (.int .i64 m)) none).run P W = .ok (.slice (some a) m c) W := by
  have hel : P.elem t = e := by simp [Program.elem, ht]
  have hu : P.underlying t = some (.slice (P.elem t)) := by rw [hel]; exact ht
  rw [run_slice_h W t (some a) n c hu .i64 m (by omega) (by omega), hel]
  simp [sizeOf, typeInfo, hi, sliced, Result.andThen, Addr.add]
theorem cut_hm {P : Program} (t e : TypeId) {i : TypeInfo} (ht : P.underlying t = some (.slice e)) (hi : P.info? e = some i) (a : Addr) (n c m k : Nat) (hm : m ≤ k) (hc : k ≤ c) (W : World) :
    (Instr.slice t (.slice (some a) n c) none (some (.int .i64 m)) (some (.int .i64 k))).run P W = .ok (.slice (some a) m k) W := by
  have hel : P.elem t = e := by simp [Program.elem, ht]
  have hu : P.underlying t = some (.slice (P.elem t)) := by rw [hel]; exact ht
  rw [run_slice_hm W t (some a) n c hu .i64 .i64 m k (by omega) (by omega) (by omega), hel]
  simp [sizeOf, typeInfo, hi, sliced, Result.andThen, Addr.add]
def mark : Nat := 8608480567731124087
set_option maxHeartbeats 4000000 in
theorem twin_any (sz : Int) (A : Option Addr) (c : Nat) (ws : List Nat) (w : World) (hr : Rd w A ws) (hA : A = none → ws.length = 0 ∧ c = 0) (hl : ws.length ≤ 17592186044415) :
    Calls Try.prog 12 #[.agg #[.int .i64 sz, .slice A ws.length c]] w fun x w' => ∃ g c', x = .returned (.agg #[.int .i64 sz, .slice (some ⟨g, 0, none⟩) ws.length c']) ∧ w.heap.size ≤ g ∧ ws.length + 1 ≤ c' ∧ WB w' g (ws ++ [mark]) ∧ Below w.heap.size w w' := by
  go_enter Try.func12, Try.ntmps12
  have hb0 := bl_a (bl_a (Below.refl w.heap.size w) (.cells #[.int .i64 sz, .slice A ws.length c] 24)) (.cells #[.int .i64 0, .slice none 0 0] 24)
  go_wp2_with (first | (at_builtin; refine appC (w0 := w) (w.heap.size + 2) rfl _ _ _ 75 (.int .u64 0) 1 8 rfl Try.underlying22 info_u64 rfl (by decide) (by decide) (.slice none 0 0) 0 [] rfl A ws.length c (enc64 ws) rfl (by simp [enc64]) (rd_news (hr.below hb0)) (oneCell_enc ws) hA (World.ownsRow_nil _ _ _ _) hb0 (by omega) (by simp) (by omega) ?_; intro v1 w1 ho1 hb1 hg1 hn1; have hbs := blk_grown (ha_new (w.alloc (.cells #[.int .i64 sz, .slice A ws.length c] 24)) (.cells #[.int .i64 0, .slice none 0 0] 24) (w.heap.size + 1) (by simp)) hg1 (by simp [Value.ownBlock])) | (at_builtin; refine app1 (w0 := w) (w.heap.size + 2) rfl _ _ _ 75 (.int .u64 0) 1 8 rfl Try.underlying22 info_u64 rfl (by decide) (by decide) v1 (0 + ws.length) ([] ++ enc64 ws) [.int .u64 8608480567731124087] rfl _ rfl (by simp) rfl (by simp [Value.oneCell']) ho1 hb1 (by omega) (by have := hb1.size; have := hg1.size; simp at this; omega) (by omega) ?_; intro v2 w2 ho2 hb2 hg2; obtain ⟨A2, c2, rfl, hc2⟩ := own_slice ho2))
  obtain ⟨g, rfl, hg0, hg1', _, _, _⟩ := own_at ho2 (by omega)
  have hown : w2.ownsRow (w.heap.size + 2) 75 1 (.slice (some ⟨g, 0, none⟩) (0 + ws.length + 1) c2) (0 + ws.length + 1) (enc64 (ws ++ [mark])) := by
    have e : enc64 (ws ++ [mark]) = [] ++ enc64 ws ++ [Value.int .u64 8608480567731124087] := by simp [enc64, mark]
    rw [e]; exact ho2
  obtain ⟨hwb, hgb, _, _⟩ := own_wb hown (by simp)
  have hne1 : ∀ k, k < w.heap.size + 2 → some k ≠ v1.ownBlock := fun k hk e => by have := own_base ho1 k e.symm; omega
  have hbx1 := blk_grown ((ha_old (w.alloc (.cells #[.int .i64 sz, .slice A ws.length c] 24)) (.cells #[.int .i64 0, .slice none 0 0] 24) w.heap.size (by simp)).trans (ha_new w _ _ rfl)) hg1 (by simp [Value.ownBlock])
  have hbx2 := blk_grown hbx1 hg2 (hne1 _ (by omega))
  have hbs2 := blk_grown hbs hg2 (hne1 _ (by omega))
  obtain ⟨p0, p1, f0, f1, hl0⟩ := blk2 hbx2
  obtain ⟨q0, q1, r0, r1, hl1⟩ := blk2 hbs2
  obtain ⟨i0, hi0, hz0, hz1, hz2⟩ := info_parts' info_u64
  have hcut : ∀ W : World, (Instr.slice 22 (.slice (some ⟨g, 0, none⟩) (ws.length + 1) c2) none (some (.int .i64 ws.length)) none).run Try.prog W = .ok (.slice (some ⟨g, 0, none⟩) ws.length c2) W := cut_h _ _ Try.underlying22 hi0 _ _ _ _ (by omega)
  clear hn1 hne1 ho1 ho2 hown
  go_region
  go_wp2
  refine bodyPost_ret (res_c rfl _ _ (w.heap.size + 1) 24 #[.int .i64 sz, .slice (some ⟨g, 0, none⟩) ws.length c2] (0, 0) _ rfl (hs_same (hs_same hbs2 0 _) 1 _) Try.underlying24 rfl (by kernel_rfl)) rfl ?_
  exact ⟨g, c2, rfl, by omega, by omega, (hwb.other (by simp; omega) _).other (by simp; omega) _, bl_d (bl_s (bl_s hb2 (by simp) _) (by simp) _)⟩
theorem wd_mark (ws : List Nat) : wd (ws ++ [mark]) ws.length = mark := by
  unfold wd
  rw [List.getD_eq_getElem?_getD, List.getElem?_append_right (Nat.le_refl _)]
  simp
set_option maxHeartbeats 4000000 in
theorem kept_any (sz : Int) (A : Option Addr) (c g cu : Nat) (ws : List Nat) (w : World) (hu : WB w g (ws ++ [mark])) (hcu : ws.length + 1 ≤ cu) (hr : Rd w A ws) (hl : ws.length ≤ 17592186044415) :
    Calls Try.prog 17 #[.agg #[.int .i64 sz, .slice (some ⟨g, 0, none⟩) ws.length cu], .agg #[.int .i64 sz, .slice A ws.length c]] w fun x w' => x = .returned (.bool true) ∧ Below w.heap.size w w' := by
  have hsb : sameB sz sz ws ws = true := by unfold sameB; simp
  obtain ⟨i0, hi0, hz0, hz1, hz2⟩ := info_parts' info_u64
  have hcut : ∀ W : World, (Instr.slice 22 (.slice (some ⟨g, 0, none⟩) ws.length cu) none (some (.int .i64 ((ws.length : Int) + 1))) (some (.int .i64 ((ws.length : Int) + 1)))).run Try.prog W = .ok (.slice (some ⟨g, 0, none⟩) (ws.length + 1) (ws.length + 1)) W := by
    intro W
    have := cut_hm 22 75 Try.underlying22 hi0 ⟨g, 0, none⟩ ws.length cu (ws.length + 1) (ws.length + 1) (Nat.le_refl _) hcu W
    simpa using this
  have hm := hu.cell (j := ws.length) (by simp)
  rw [wd_mark] at hm
  have hm' : w.cell? ⟨g, ws.length, none⟩ = some (.int .u64 8608480567731124087) := hm
  have hgl := hu.lt
  have HS := Lib.hid (fun W h1 h2 => same_any sz sz (some ⟨g, 0, none⟩) A cu c ws ws W h1 h2 (by omega))
  clear hm
  go_enter Try.func17, Try.ntmps17
  go_wp2_with fail
  have hb0 := bl_a (bl_a (Below.refl w.heap.size w) (.cells #[.int .i64 sz, .slice (some ⟨g, 0, none⟩) ws.length cu] 24)) (.cells #[.int .i64 sz, .slice A ws.length c] 24)
  refine (HS.out _ (hu.below hb0).rd.pre (hr.below hb0)).mono ?_
  rintro x w1 ⟨rfl, hb1⟩
  have hbx := (hb1.block w.heap.size (by simp; omega)).trans ((ha_old _ _ w.heap.size (by simp)).trans (ha_new w _ _ rfl))
  obtain ⟨p0, p1, f0, f1, hl0⟩ := blk2 hbx
  have hm1 := ((bl_t hb0 hb1).cell (p := ⟨g, ws.length, none⟩) hgl).trans hm'
  have hg1 : g < w1.heap.size := Nat.lt_of_lt_of_le hgl (bl_t hb0 hb1).size
  clear hm'
  go_wp2
  go_ret
  exact ⟨rfl, bl_t hb0 hb1⟩
end Go.Proofs.Ytlmjfcieiengcaa
