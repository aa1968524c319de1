/- slices.IndexFunc and slices.DeleteFunc with entry.Cut's closure. Conditions: at most 1000 entries. -/
import Derived.Test.YtopglbkcciigbaaEnIns
import Derived.Test.YtopglbkcciigbaaEnMerge
namespace Go.Proofs.Ytopglbkcciigbaa
open Go.RowKit
set_option linter.unusedSimpArgs false
set_option linter.unusedVariables false
def inB (lo hi : Int) (x : Ent) : Bool := decide (lo ≤ x.s) && decide (x.e ≤ hi)
section
variable {P : Program} {w w1 : World} {e : TypeId} {sz : Nat} {v : Value} {cs : List Value}
theorem run_clear_sz (w : World) (t e ty : TypeId) (z : Value) (ht : P.underlying t = some (.slice e)) (hv : ∀ w, (zeroValue e).run P w = .ok z w) (b o n c : Nat) (hn : 0 < n) (hz1 : ∀ v ∈ (Builtin.zeroCells z.cells n).toList, v.oneCell' = true)
    (hc : ∀ j, j < (Builtin.zeroCells z.cells n).toList.length → (w.cell? ⟨b, o + j, none⟩).isSome = true) (hf : ∀ j, j < (Builtin.zeroCells z.cells n).toList.length → w.frozen? ⟨b, o + j, none⟩ = false) :
    (Builtin.clear_ #[t] ty #[.slice (some ⟨b, o, none⟩) n c]).run P w = .ok (.tuple #[]) (w.setCells b o (Builtin.zeroCells z.cells n).toList) := by
  have hst := run_storeCells_cells (P := P) b o (Builtin.zeroCells z.cells n).toList 0 w (by simpa using hc) (by simpa using hf) hz1
  simp only [Nat.add_zero] at hst
  obtain ⟨m, rfl⟩ : ∃ m, n = m + 1 := ⟨n - 1, by omega⟩
  simp [Builtin.clear_, run_underlying ht, hv, hst]
theorem Sl.head {g off n cap : Nat} (h : Sl w e sz (.slice (some ⟨g, off, none⟩) n cap) cs) (k : Nat) (hk : k ≤ n) : Sl w e sz (.slice (some ⟨g, off, none⟩) k cap) (cs.take (k * sz)) := by
  rcases h with ⟨h0, _⟩ | ⟨g', off', n', cap', row, heq, ho, hl, hc, hm, hs, ht⟩
  · cases h0
  · cases heq
    have e1 : k * sz ≤ n * sz := Nat.mul_le_mul_right _ hk
    refine .inr ⟨g, off, k, cap, row, rfl, ho, by rw [List.length_take, hl]; omega, by omega, hm, hs, ?_⟩
    rw [← ht, List.take_take, Nat.min_eq_left e1]
end
theorem zeroVal (w : World) : (zeroValue 28).run Try.prog w = .ok (.agg #[.int .i64 0, .int .i64 0, .int .i64 0, .int .i64 0, .bool false, .int .i64 0, .int .i64 0, .int .i64 0, .int .i64 0, .bool false]) w := Try.zeroValue28 w
theorem zeros_len (k : Nat) : (Builtin.zeroCells (Value.agg #[.int .i64 0, .int .i64 0, .int .i64 0, .int .i64 0, .bool false, .int .i64 0, .int .i64 0, .int .i64 0, .int .i64 0, .bool false]).cells k).toList.length = k * 10 := by
  simp [Builtin.zeroCells, Value.cells]
theorem zeros_one (k : Nat) : ∀ v ∈ (Builtin.zeroCells (Value.agg #[.int .i64 0, .int .i64 0, .int .i64 0, .int .i64 0, .bool false, .int .i64 0, .int .i64 0, .int .i64 0, .int .i64 0, .bool false]).cells k).toList, v.oneCell' = true := by
  intro v hv
  simp [Builtin.zeroCells, Value.cells] at hv
  obtain ⟨i, hi, rfl⟩ := hv
  have h10 : i % 10 < 10 := Nat.mod_lt _ (by omega)
  generalize i % 10 = q at h10
  match q, h10 with
  | 0, _ => rfl
  | 1, _ => rfl
  | 2, _ => rfl
  | 3, _ => rfl
  | 4, _ => rfl
  | 5, _ => rfl
  | 6, _ => rfl
  | 7, _ => rfl
  | 8, _ => rfl
  | 9, _ => rfl
/-- What Cut's closure has at hand: the two pages, and what is gone so far. -/
structure CutS (w0 W : World) (ba bb bg : Nat) (lo hi : Int) (gb : Option Nat) (gl : List Ent) : Prop where
  a : ob W ba = some (.cells #[.int .i64 lo] 3 (0, 0))
  b : ob W bb = some (.cells #[.int .i64 hi] 3 (0, 0))
  g : ∃ gv, ob W bg = some (.cells #[gv] 31 (0, 0)) ∧ SE W gv gl ∧ gv.ownBlock = gb
  own : ∀ k, gb = some k → w0.heap.size ≤ k ∧ k < W.heap.size
  lt : ba < w0.heap.size ∧ bb < w0.heap.size ∧ bg < w0.heap.size ∧ ba ≠ bg ∧ bb ≠ bg
  size : w0.heap.size ≤ W.heap.size
def capV (ba bb bg : Nat) : Array Value := #[.pointer (some ⟨ba, 0, none⟩), .pointer (some ⟨bb, 0, none⟩), .pointer (some ⟨bg, 0, none⟩)]
theorem CutS.fr {w0 W W' : World} {ba bb bg : Nat} {lo hi : Int} {gb : Option Nat} {gl : List Ent} {S : Nat → Prop} (h : CutS w0 W ba bb bg lo hi gb gl) (hf : Fr S W W') (hS : ∀ k, S k → k < w0.heap.size ∧ k ≠ ba ∧ k ≠ bb ∧ k ≠ bg) : CutS w0 W' ba bb bg lo hi gb gl := by
  obtain ⟨h1, h2, ⟨gv, h3, h4, h5⟩, h8, h6, h7⟩ := h
  exact ⟨hf.keep (fun hs => (hS _ hs).2.1 rfl) h1, hf.keep (fun hs => (hS _ hs).2.2.1 rfl) h2, ⟨gv, hf.keep (fun hs => (hS _ hs).2.2.2 rfl) h3, h4.fr hf (fun k hk hs => by have := h8 k (h5 ▸ hk); have := (hS k hs).1; omega), h5⟩, fun k hk => ⟨(h8 k hk).1, Nat.lt_of_lt_of_le (h8 k hk).2 hf.size⟩, h6, Nat.le_trans h7 hf.size⟩
set_option maxRecDepth 100000 in
set_option maxHeartbeats 4000000 in
theorem cut1_any {w0 W : World} {ba bb bg : Nat} {lo hi : Int} {gb : Option Nat} {gl : List Ent} (h : CutS w0 W ba bb bg lo hi gb gl) (hl : gl.length ≤ 1000) (x : Ent) :
    Calls Try.prog 48 #[.agg #[.int .i64 x.s, .int .i64 x.e, .int .i64 x.f, .int .i64 x.o, .bool x.sh, .int .i64 x.pr, .int .i64 x.mx, .int .i64 x.inh, .int .i64 x.adv, .bool x.wi], .pointer (some ⟨ba, 0, none⟩), .pointer (some ⟨bb, 0, none⟩), .pointer (some ⟨bg, 0, none⟩)] W fun e W' => e = .returned (.bool (inB lo hi x)) ∧ (∃ gb', CutS w0 W' ba bb bg lo hi gb' (if inB lo hi x then gl ++ [x] else gl)) ∧ Fr (fun k => k = bg ∨ gb = some k) W W' := by
  obtain ⟨ha, hb, ⟨gv, hg, hs, hgb⟩, hown, ⟨l1, l2, l3, l4, l5⟩, hsz⟩ := id h
  subst hgb
  obtain ⟨i0, hi0, hz0, hzs, hzb⟩ := info_of zeroEnt
  obtain ⟨B, M, D, rfl⟩ := hs.shape
  have hM : M = gl.length := SE.elen hs
  have hM5 : M ≤ 1000 := by omega
  have ca : W.cell? ⟨ba, 0, none⟩ = some (.int .i64 lo) := cell_of_ob ha 0
  have cb : W.cell? ⟨bb, 0, none⟩ = some (.int .i64 hi) := cell_of_ob hb 0
  have cg : W.cell? ⟨bg, 0, none⟩ = some (.slice B M D) := cell_of_ob hg 0
  have fg : W.frozen? ⟨bg, 0, none⟩ = false := frozen_of_ob hg 0
  have sa := ob_lt ha
  have sb := ob_lt hb
  have sg := ob_lt hg
  have sa1 : ba < W.heap.size + 1 := by omega
  have sb1 : bb < W.heap.size + 1 := by omega
  have sg1 : bg < W.heap.size + 1 := by omega
  have sg2 : bg < W.heap.size + 1 + 1 := by omega
  have HG := Lib.hid hg
  have HA := Lib.hid ha
  have HB := Lib.hid hb
  clear hM ha hb hg
  go_enter Try.func48, Try.ntmps48
  by_cases h1 : lo ≤ x.s
  · by_cases h2 : x.e ≤ hi
    · have hin : inB lo hi x = true := by unfold inB; rw [decide_eq_true h1, decide_eq_true h2]; rfl
      rw [hin]
      go_upto_region 3 with fail
      go_wp2_with (at_builtin; go_must (refine wpList_app (v := .slice B M D) rfl _ _ _ rfl Try.underlying31 hi0 hz0 hzs hzb rfl (by decide) rfl (Sl.alloc (Sl.alloc hs _) _) _ 1 1 [.int .i64 x.s, .int .i64 x.e, .int .i64 x.f, .int .i64 x.o, .bool x.sh, .int .i64 x.pr, .int .i64 x.mx, .int .i64 x.inh, .int .i64 x.adv, .bool x.wi] rfl (ob_newAt _ _ _ (by simp)) rfl (by simp [Value.oneCell']) (by decide) (by simp only [maxLen, sliceLen] at *; omega) (by simp only [sliceLen] at *; omega) ?_; intro v2 w4 hs2 hf3 ho2 hl2; obtain ⟨B2, M2, D2, rfl⟩ := hs2.shape; have hf4 : Fr (fun k => (Value.slice B M D).ownBlock = some k) W w4 := ((((Fr.refl (fun k => (Value.slice B M D).ownBlock = some k) W).alloc _).alloc _).step hf3 (fun k hk => .inl hk)); have og4 := hf4.keep (fun hk => by have := (hown bg hk).1; omega) HG.out; have cg4 : w4.cell? ⟨bg, 0, none⟩ = some (.slice B M D) := cell_of_ob og4 0; have fg4 : w4.frozen? ⟨bg, 0, none⟩ = false := frozen_of_ob og4 0; have sg4 := ob_lt og4))
      go_wp2
      go_ret
      have hne : ∀ k, (Value.slice B2 M2 D2).ownBlock = some k → w0.heap.size ≤ k := fun k hk => by
        rcases ho2 with ho2 | ⟨r, ho2, hr⟩
        · exact (hown k (ho2 ▸ hk)).1
        · rw [ho2] at hk; cases hk; simp at hr; omega
      have hs3 : SE w4 (.slice B2 M2 D2) (gl ++ [x]) := by
        show Sl w4 28 10 _ ((gl ++ [x]).flatMap ent)
        rw [List.flatMap_append]; exact hs2
      have hk4 : ∀ k, k < w0.heap.size → k ≠ bg → ob (w4.setCell ⟨bg, 0, none⟩ (.slice B2 M2 D2)) k = ob W k := fun k hk hkb => by
        rw [ob_setCell _ _ _ _ (fun e => hkb e)]
        exact hf4.block k (by omega) (fun h => by have := (hown k h).1; omega)
      refine ⟨rfl, ⟨_, (hk4 ba l1 l4).trans HA.out, (hk4 bb l2 l5).trans HB.out, ⟨.slice B2 M2 D2, ob_setCell_same og4 _, Sl.of hs3 (fun k hk => ob_setCell _ _ _ _ (fun e => by have := hne k hk; simp at e; omega)), rfl⟩, fun k hk => ⟨hne k hk, by have := Sl.lt hs3 hk; simpa using this⟩, ⟨l1, l2, l3, l4, l5⟩, by have := hf4.size; simp; omega⟩, ?_⟩
      exact (hf4.mono' (fun k hk => .inr hk)).setCell _ _ (.inl (.inl rfl))
    · have hin : inB lo hi x = false := by unfold inB; rw [decide_eq_false h2]; simp
      rw [hin]
      go_wp2
      go_ret
      exact ⟨rfl, ⟨_, h.fr ((Fr.refl (fun _ => False) W).alloc _) (fun k hk => hk.elim)⟩, ((Fr.refl _ W).alloc _)⟩
  · have hin : inB lo hi x = false := by unfold inB; rw [decide_eq_false h1]; rfl
    rw [hin]
    go_wp2
    go_ret
    exact ⟨rfl, ⟨_, h.fr ((Fr.refl (fun _ => False) W).alloc _) (fun k hk => hk.elim)⟩, ((Fr.refl _ W).alloc _)⟩
set_option maxRecDepth 100000 in
set_option maxHeartbeats 4000000 in
theorem index_any {w0 W : World} {ba bb bg : Nat} {lo hi : Int} {gb : Option Nat} {l : List Ent} (h : CutS w0 W ba bb bg lo hi gb []) {A : Option Addr} {N C : Nat} (hs : SE W (.slice A N C) l) (hown : ∀ k, (Value.slice A N C).ownBlock = some k → k < w0.heap.size ∧ k ≠ bg) (hl : l.length ≤ 500) :
    Calls Try.prog 50 #[.slice A N C, .func (.func 48) #[] #[.pointer (some ⟨ba, 0, none⟩), .pointer (some ⟨bb, 0, none⟩), .pointer (some ⟨bg, 0, none⟩)]] W fun e W' =>
      ∃ (r : Nat) (gl : List Ent), (∀ t y, t < r → l[t]? = some y → inB lo hi y = false) ∧ (∃ gb', CutS w0 W' ba bb bg lo hi gb' gl) ∧ Fr (fun k => k = bg ∨ w0.heap.size ≤ k) W W' ∧
        ((r = l.length ∧ e = .returned (.int .i64 (-1)) ∧ gl = []) ∨ (∃ x, l[r]? = some x ∧ inB lo hi x = true ∧ e = .returned (.int .i64 r) ∧ gl = [x])) := by
  have hN : N = l.length := SE.elen hs
  have hN5 : N ≤ 500 := by omega
  have HN := Lib.hid hN
  have HO := Lib.hid hown
  clear hN hl hown
  go_enter Try.func50, Try.ntmps50
  go_wp2_with fail
  go_loopw [8] (fun v wr => ∃ i : Nat, i ≤ N ∧ v = .int .i64 i ∧ Hid (∀ t y, t < i → l[t]? = some y → inB lo hi y = false) ∧ (∃ gb', CutS w0 wr ba bb bg lo hi gb' []) ∧ Fr (fun k => k = bg ∨ w0.heap.size ≤ k) W wr) (fun v _ => N - (intOf v).toNat)
  case atStart => exact ⟨0, by omega, rfl, Lib.hid (fun t x ht _ => absurd ht (Nat.not_lt_zero _)), ⟨_, h⟩, Fr.refl _ _⟩
  case round =>
    obtain ⟨i, hiN, rfl, HB, ⟨gb', hc⟩, hf⟩ := hrel
    by_cases hlt : i < N
    · obtain ⟨x, hx⟩ : ∃ x, l[i]? = some x := ⟨_, List.getElem?_eq_getElem (by have := HN.out; omega)⟩
      have hsr := hs.fr hf (fun k hk hS => by have := HO.out k hk; omega)
      obtain ⟨g, off, n', cap', heq, hgl, -, -, c0, c1, c2, c3, c4, c5, c6, c7, c8, c9⟩ := SE.entry hsr hx
      cases heq
      have HX := Lib.hid hx
      have hcall := cut1_any hc (by simp) x
      have hown' : ∀ k, gb' = some k → w0.heap.size ≤ k := fun k hk => (hc.own k hk).1
      clear hx hsr
      cases hin : inB lo hi x with
      | true =>
        rw [hin] at hcall
        go_wp2_with fail
        refine hcall.mono ?_
        rintro e w2 ⟨rfl, hc2, hf2⟩
        clear hcall
        go_wp2
        go_ret
        exact ⟨i, [x], HB.out, hc2, hf.step hf2 (fun k hk => .inl (hk.elim .inl (fun h => .inr (hown' k h)))), .inr ⟨x, HX.out, hin, rfl, rfl⟩⟩
      | false =>
        rw [hin] at hcall
        go_wp2_with fail
        refine hcall.mono ?_
        rintro e w2 ⟨rfl, hc2, hf2⟩
        clear hcall
        have HI := Lib.hid hin
        clear hin
        go_wp2
        go_roundw
        case rel =>
          refine ⟨i + 1, by omega, by go_num, Lib.hid (fun t y ht hy => ?_), let ⟨q, hq⟩ := hc2; ⟨q, by simpa using hq⟩, hf.step hf2 (fun k hk => .inl (hk.elim .inl (fun h => .inr (hown' k h))))⟩
          by_cases ht2 : t < i
          · exact HB.out t y ht2 hy
          · obtain rfl : t = i := by omega
            have := HX.out; rw [hy] at this; cases this; exact HI.out
        case measure => simp [intOf]; omega
    · obtain rfl : i = N := by omega
      go_wp2
      go_ret
      exact ⟨i, [], HB.out, ⟨_, hc⟩, hf, .inl ⟨HN.out, rfl, rfl⟩⟩
theorem filter_upto {l : List Ent} {p : Ent → Bool} {r : Nat} (h : ∀ t y, t < r → l[t]? = some y → p y = false) : (l.take r).filter p = [] ∧ (l.take r).filter (fun x => !p x) = l.take r := by
  have h1 : ∀ y ∈ l.take r, p y = false := fun y hy => by
    obtain ⟨t, ht, hy2⟩ := List.getElem_of_mem hy
    have hyt : (l.take r)[t]? = some y := by rw [List.getElem?_eq_getElem ht, hy2]
    have htr : t < r := by rw [List.length_take] at ht; omega
    rw [List.getElem?_take, if_pos htr] at hyt
    exact h t y htr hyt
  exact ⟨List.filter_eq_nil_iff.2 (fun y hy => by rw [h1 y hy]; simp), List.filter_eq_self.2 (fun y hy => by rw [h1 y hy]; rfl)⟩
theorem filter_snoc {l : List Ent} {p : Ent → Bool} {j : Nat} {x : Ent} (hx : l[j]? = some x) : (l.take (j + 1)).filter p = (l.take j).filter p ++ if p x then [x] else [] := by
  rw [List.take_add_one, hx, List.filter_append]
  congr 1
  cases hp : p x <;> simp [List.filter_cons, hp]
theorem SE.putEnt {w : World} {g off n cap : Nat} {l : List Ent} (h : SE w (.slice (some ⟨g, off, none⟩) n cap) l) {i : Nat} (hi : i < l.length) (x : Ent) :
    SE (w.setCells g (off + i * 10) (ent x)) (.slice (some ⟨g, off, none⟩) n cap) (l.set i x) := by
  have := Sl.put h (i * 10) (ent x) (by rw [len_ents]; simp [ent]; omega)
  have e1 : (l.set i x).flatMap ent = (l.flatMap ent).take (i * 10) ++ ent x ++ (l.flatMap ent).drop (i * 10 + (ent x).length) := by
    have e2 : i * 10 + (ent x).length = (i + 1) * 10 := by simp [ent]; omega
    rw [e2, flat_take, flat_drop, List.set_eq_take_append_cons_drop, if_pos hi]
    simp [List.flatMap_append, List.flatMap_cons]
  unfold SE
  rw [e1]
  exact this
set_option maxRecDepth 100000 in
set_option maxHeartbeats 4000000 in
theorem delete_any {w0 W : World} {ba bb bg : Nat} {lo hi : Int} {gb : Option Nat} {l : List Ent} (h : CutS w0 W ba bb bg lo hi gb []) {v : Value} (hs : SE W v l) (hown : ∀ k, v.ownBlock = some k → k < w0.heap.size ∧ k ≠ ba ∧ k ≠ bb ∧ k ≠ bg) (hl : l.length ≤ 500) :
    Calls Try.prog 47 #[v, .func (.func 48) #[] #[.pointer (some ⟨ba, 0, none⟩), .pointer (some ⟨bb, 0, none⟩), .pointer (some ⟨bg, 0, none⟩)]] W fun e W' =>
      ∃ v', e = .returned v' ∧ SE W' v' (l.filter (fun x => !inB lo hi x)) ∧ (∃ gb', CutS w0 W' ba bb bg lo hi gb' (l.filter (inB lo hi))) ∧ Fr (fun k => k = bg ∨ v.ownBlock = some k ∨ w0.heap.size ≤ k) W W' ∧ v'.ownBlock = v.ownBlock := by
  obtain ⟨A, N, C, rfl⟩ := hs.shape
  have hN : N = l.length := SE.elen hs
  have hN5 : N ≤ 500 := by omega
  have hix := index_any h hs (fun k hk => ⟨(hown k hk).1, (hown k hk).2.2.2⟩) hl
  have HN := Lib.hid hN
  have HO := Lib.hid hown
  have HS := Lib.hid hs
  clear hN hl hown
  go_enter Try.func47, Try.ntmps47
  go_wp2_with fail
  refine hix.mono ?_
  rintro e w1 ⟨r, gl, hB, ⟨gb1, hc1⟩, hf1, hor⟩
  clear hix
  have hs1 := Sl.fr HS.out hf1 (fun k hk hS => by have := HO.out k hk; omega)
  obtain ⟨hfu1, hfu2⟩ := filter_upto hB
  rcases hor with ⟨hr, rfl, rfl⟩ | ⟨x, hx, hin, rfl, rfl⟩
  · rw [hr, List.take_length] at hfu1 hfu2
    have FU1 := Lib.hid hfu1
    have FU2 := Lib.hid hfu2
    clear hB hs hfu1 hfu2 hr
    go_wp2
    go_ret
    exact ⟨_, rfl, by rw [FU2.out]; exact hs1, by rw [FU1.out]; exact ⟨_, hc1⟩, hf1.mono' (fun k hk => hk.elim .inl (fun h => .inr (.inr h))), rfl⟩
  · obtain ⟨g, off, n', cap', heq, -, -, -, -⟩ := SE.entry hs1 hx
    cases heq
    have hrN : r < N := by rw [HN.out]; exact (List.getElem?_eq_some_iff.1 hx).1
    have hst1 : (l.take (r + 1)).filter (inB lo hi) = [x] := by rw [filter_snoc hx, hfu1, hin]; rfl
    have hst2 : (l.take (r + 1)).filter (fun y => !inB lo hi y) = l.take r := by rw [filter_snoc hx, hfu2, hin]; simp
    have ST1 := Lib.hid hst1
    have ST2 := Lib.hid hst2
    clear hB hs hfu1 hfu2 hst1 hst2 hin hx
    go_wp2_with fail
    go_loopw [5, 6] (fun si sj wr => ∃ (i j : Nat) (cur : List Ent), i < j ∧ j ≤ N ∧ si = .int .i64 i ∧ sj = .int .i64 j ∧ Hid (cur.length = l.length ∧ cur.take i = (l.take j).filter (fun y => !inB lo hi y) ∧ cur.drop j = l.drop j) ∧ SE wr (.slice (some ⟨g, off, none⟩) N C) cur ∧
        (∃ gb', CutS w0 wr ba bb bg lo hi gb' ((l.take j).filter (inB lo hi))) ∧ Fr (fun k => k = bg ∨ k = g ∨ w0.heap.size ≤ k) W wr) (fun _ sj _ => N - (intOf sj).toNat)
    case atStart => exact ⟨r, r + 1, l, by omega, by omega, rfl, by go_num, Lib.hid ⟨rfl, ST2.out.symm, rfl⟩, hs1, by rw [ST1.out]; exact ⟨_, hc1⟩, hf1.mono' (fun k hk => hk.elim .inl (fun h => .inr (.inr h)))⟩
    case round =>
      obtain ⟨i, j, cur, hij, hjN, rfl, rfl, HC, hsr, ⟨gb', hcr⟩, hf⟩ := hrel
      clear hs1 hc1
      by_cases hlt : j < N
      · obtain ⟨x, hx⟩ : ∃ x, l[j]? = some x := ⟨_, List.getElem?_eq_getElem (by have := HN.out; omega)⟩
        have hcx : cur[j]? = some x := by
          have h1 : (cur.drop j)[0]? = (l.drop j)[0]? := by rw [HC.out.2.2]
          rw [List.getElem?_drop, List.getElem?_drop] at h1
          simpa [hx] using h1
        obtain ⟨g', off', n', cap', heq, hgl, -, -, c0, c1, c2, c3, c4, c5, c6, c7, c8, c9⟩ := SE.entry hsr hcx
        cases heq
        have HX := Lib.hid hx
        have hcl : cur.length = N := by have := HC.out.1; have := HN.out; omega
        have HCL := Lib.hid hcl
        have hgo : g < w0.heap.size ∧ g ≠ ba ∧ g ≠ bb ∧ g ≠ bg := HO.out g rfl
        have HGO := Lib.hid hgo
        have hca : CutS w0 (wr.alloc (.cells #[.int .i64 x.s, .int .i64 x.e, .int .i64 x.f, .int .i64 x.o, .bool x.sh, .int .i64 x.pr, .int .i64 x.mx, .int .i64 x.inh, .int .i64 x.adv, .bool x.wi] 28)) ba bb bg lo hi gb' ((l.take j).filter (inB lo hi)) := hcr.fr ((Fr.refl (fun _ => False) wr).alloc _) (fun k hk => hk.elim)
        have hgl5 : ((l.take j).filter (inB lo hi)).length ≤ 1000 := by
          have h1 := List.length_filter_le (inB lo hi) (l.take j)
          have h2 : (l.take j).length ≤ 500 := by rw [List.length_take]; omega
          omega
        have hcall := cut1_any hca hgl5 x
        have hob := hcr.own
        have key : ∀ w3, Fr (fun k => k = bg ∨ gb' = some k) (wr.alloc (.cells #[.int .i64 x.s, .int .i64 x.e, .int .i64 x.f, .int .i64 x.o, .bool x.sh, .int .i64 x.pr, .int .i64 x.mx, .int .i64 x.inh, .int .i64 x.adv, .bool x.wi] 28)) w3 → SE w3 (.slice (some ⟨g, off, none⟩) N C) cur ∧ ob w3 wr.heap.size = some (.cells #[.int .i64 x.s, .int .i64 x.e, .int .i64 x.f, .int .i64 x.o, .bool x.sh, .int .i64 x.pr, .int .i64 x.mx, .int .i64 x.inh, .int .i64 x.adv, .bool x.wi] 28 (0, 0)) ∧ Fr (fun k => k = bg ∨ k = g ∨ w0.heap.size ≤ k) W w3 := fun w3 hf3 => by
          have hsz := hcr.size
          have hbl := hcr.lt
          refine ⟨(Sl.alloc hsr _).fr hf3 (fun k hk hS => ?_), hf3.keep (fun hS => ?_) (ob_new wr _), (hf.alloc _).step hf3 (fun k hk => .inl (hk.elim .inl (fun h => .inr (.inr (hob k h).1))))⟩
          · have h0 : g = k := Option.some.inj hk
            rcases hS with h | h
            · omega
            · have := hob k h; omega
          · rcases hS with h | h
            · omega
            · have := hob _ h; omega
        have KEY := Lib.hid key
        have F1 := Lib.hid (filter_snoc (p := inB lo hi) hx)
        have F2 := Lib.hid (filter_snoc (p := fun y => !inB lo hi y) hx)
        clear hx hcx hcl hgo hgl5 hca key hob
        cases hin : inB lo hi x with
        | true =>
          rw [hin] at hcall F1 F2
          go_wp2_with fail
          refine hcall.mono ?_
          rintro e w2 ⟨rfl, hc2, hf2⟩
          obtain ⟨hs2, o2, hf02⟩ := KEY.out w2 hf2
          clear hcall
          go_wp2
          go_roundw
          case rel =>
            (repeat apply Exists.intro)
            refine ⟨⟨i, j + 1, cur, by omega, by omega, rfl, by go_num, Lib.hid ⟨HC.out.1, ?_, ?_⟩, hs2, ?_, hf02⟩, rfl⟩
            · rw [F2.out, HC.out.2.1]; simp
            · have h1 := congrArg (List.drop 1) HC.out.2.2
              rw [List.drop_drop, List.drop_drop] at h1; exact h1
            · rw [F1.out]; exact hc2
          case measure => simp [intOf]; omega
        | false =>
          rw [hin] at hcall F1 F2
          go_wp2_with fail
          refine hcall.mono ?_
          rintro e w2 ⟨rfl, hc2, hf2⟩
          obtain ⟨hs2, o2, hf02⟩ := KEY.out w2 hf2
          have hg2 : g < w2.heap.size := Sl.lt hs2 rfl
          have hiN : i < N := by omega
          obtain ⟨d0, d1, d2, d3, d4, d5, d6, d7, d8, d9⟩ : (w2.cell? ⟨wr.heap.size, 0, none⟩ = some (.int .i64 x.s) ∧ w2.cell? ⟨wr.heap.size, 1, none⟩ = some (.int .i64 x.e) ∧ w2.cell? ⟨wr.heap.size, 2, none⟩ = some (.int .i64 x.f) ∧ w2.cell? ⟨wr.heap.size, 3, none⟩ = some (.int .i64 x.o) ∧ w2.cell? ⟨wr.heap.size, 4, none⟩ = some (.bool x.sh) ∧ w2.cell? ⟨wr.heap.size, 5, none⟩ = some (.int .i64 x.pr) ∧ w2.cell? ⟨wr.heap.size, 6, none⟩ = some (.int .i64 x.mx) ∧ w2.cell? ⟨wr.heap.size, 7, none⟩ = some (.int .i64 x.inh) ∧ w2.cell? ⟨wr.heap.size, 8, none⟩ = some (.int .i64 x.adv) ∧ w2.cell? ⟨wr.heap.size, 9, none⟩ = some (.bool x.wi)) := ⟨cell_of_ob o2 0, cell_of_ob o2 1, cell_of_ob o2 2, cell_of_ob o2 3, cell_of_ob o2 4, cell_of_ob o2 5, cell_of_ob o2 6, cell_of_ob o2 7, cell_of_ob o2 8, cell_of_ob o2 9⟩
          have sb2 := ob_lt o2
          obtain ⟨xi, hxi⟩ : ∃ y, cur[i]? = some y := ⟨_, List.getElem?_eq_getElem (by have := HCL.out; omega)⟩
          obtain ⟨g', off', n', cap', heq, -, hfz, -, b0, b1, b2, b3, b4, b5, b6, b7, b8, b9⟩ := SE.entry hs2 hxi
          cases heq
          have z0 := hfz (off + i * 10)
          have z1 := hfz (off + i * 10 + 1)
          have z2 := hfz (off + i * 10 + 2)
          have z3 := hfz (off + i * 10 + 3)
          have z4 := hfz (off + i * 10 + 4)
          have z5 := hfz (off + i * 10 + 5)
          have z6 := hfz (off + i * 10 + 6)
          have z7 := hfz (off + i * 10 + 7)
          have z8 := hfz (off + i * 10 + 8)
          have z9 := hfz (off + i * 10 + 9)
          clear hcall hfz o2 hxi
          have h1 := SE.putEnt hs2 (i := i) (by have := HCL.out; omega) x
          have hfs : Fr (fun k => k = g) w2 (w2.setCells g (off + i * 10) (ent x)) := fr_setCells _ _ w2
          obtain ⟨gb2, hc2'⟩ := hc2
          have hc3 : CutS w0 (w2.setCells g (off + i * 10) (ent x)) ba bb bg lo hi gb2 ((l.take (j + 1)).filter (inB lo hi)) := by
            rw [F1.out]
            have := hc2'.fr hfs (fun k hk => by rw [hk]; exact HGO.out)
            simpa using this
          have hf3 := hf02.step hfs (S := fun k => k = bg ∨ k = g ∨ w0.heap.size ≤ k) (fun k hk => .inl (.inr (.inl hk)))
          have H1 := Lib.hid h1
          have HC3 := Lib.hid hc3
          have HF3 := Lib.hid hf3
          clear h1 hfs hc2' hc3 hf3
          go_wp2
          go_roundw
          case rel =>
            (repeat apply Exists.intro)
            refine ⟨⟨i + 1, j + 1, cur.set i x, by omega, by omega, by go_num, by go_num, Lib.hid ⟨by rw [List.length_set]; exact HC.out.1, ?_, ?_⟩, H1.out, ⟨_, HC3.out⟩, HF3.out⟩, rfl⟩
            · have hic : i < cur.length := by have := HCL.out; omega
              have e1 : (cur.set i x).take (i + 1) = cur.take i ++ [x] := by
                rw [List.set_eq_take_append_cons_drop, if_pos hic]
                have hlt : (cur.take i).length = i := by rw [List.length_take]; omega
                rw [List.take_append, hlt, show i + 1 - i = 1 by omega, List.take_of_length_le (by omega)]
                simp
              rw [e1, F2.out, HC.out.2.1]; simp
            · have h1 := congrArg (List.drop 1) HC.out.2.2
              rw [List.drop_drop, List.drop_drop] at h1
              rw [← h1, List.drop_set_of_lt (by omega)]
          case measure => simp [intOf]; omega
      · obtain rfl : j = N := by omega
        have hjl : j = l.length := HN.out
        have hcj : cur.length = j := by have := HC.out.1; omega
        obtain ⟨hNC, hCm⟩ := Sl.ncap hsr
        have hC9 : C ≤ 9223372036854775807 := by simp only [maxLen] at hCm; omega
        have hCi : ¬ (C = i) := by omega
        have hij2 : i ≤ j := by omega
        obtain ⟨zs, hzs⟩ : ∃ zs, zs = (Builtin.zeroCells (Value.agg #[.int .i64 0, .int .i64 0, .int .i64 0, .int .i64 0, .bool false, .int .i64 0, .int .i64 0, .int .i64 0, .int .i64 0, .bool false]).cells (j - i)).toList := ⟨_, rfl⟩
        have hzl : zs.length = (j - i) * 10 := by rw [hzs]; exact zeros_len _
        have hcl10 : (cur.flatMap ent).length = j * 10 := by rw [len_ents, hcj]
        have hput := Sl.put hsr (i * 10) zs (by rw [hzl, hcl10]; omega)
        have hcl : ∀ ty dc, (Builtin.clear_ #[31] ty #[.slice (some ⟨g, off + i * 10, none⟩) (j - i) dc]).run Try.prog wr = .ok (.tuple #[]) (wr.setCells g (off + i * 10) zs) := fun ty dc => by
          rw [hzs]
          rcases id hsr with ⟨h0, _⟩ | ⟨g', off', n', cap', row, heq, ho, hl', hc', hm', hs', ht'⟩
          · cases h0
          · cases heq
            exact run_clear_sz wr 31 28 ty _ Try.underlying31 zeroVal g (off + i * 10) (j - i) dc (by omega) (zeros_one _)
              (fun q hq => by rw [cell_of_ob ho, Array.getElem?_eq_getElem (by rw [zeros_len] at hq; omega)]; rfl) (fun q hq => frozen_of_ob ho _)
        have hhead := Sl.head hput i (by omega)
        have hres : SE (wr.setCells g (off + i * 10) zs) (.slice (some ⟨g, off, none⟩) i C) (l.filter (fun y => !inB lo hi y)) := by
          have e1 : ((cur.flatMap ent).take (i * 10) ++ zs ++ (cur.flatMap ent).drop (i * 10 + zs.length)).take (i * 10) = (l.filter (fun y => !inB lo hi y)).flatMap ent := by
            rw [List.append_assoc, List.take_append_of_le_length (by rw [List.length_take]; omega), List.take_take, Nat.min_self, flat_take, HC.out.2.1, hjl, List.take_length]
          unfold SE
          rw [← e1]
          exact hhead
        have hfs : Fr (fun k => k = g) wr (wr.setCells g (off + i * 10) zs) := fr_setCells _ _ wr
        have hgo : g < w0.heap.size ∧ g ≠ ba ∧ g ≠ bb ∧ g ≠ bg := HO.out g rfl
        have hc3 : CutS w0 (wr.setCells g (off + i * 10) zs) ba bb bg lo hi gb' (l.filter (inB lo hi)) := by
          have := hcr.fr hfs (fun k hk => by rw [hk]; exact hgo)
          rw [hjl, List.take_length] at this
          exact this
        have hf3 : Fr (fun k => k = bg ∨ (Value.slice (some ⟨g, off, none⟩) j C).ownBlock = some k ∨ w0.heap.size ≤ k) W (wr.setCells g (off + i * 10) zs) :=
          (hf.step hfs (S := fun k => k = bg ∨ k = g ∨ w0.heap.size ≤ k) (fun k hk => .inl (.inr (.inl hk)))).mono' (fun k hk => hk.elim .inl (fun h => .inr (h.elim (fun h => .inl (by rw [h]; rfl)) .inr)))
        have HRES := Lib.hid hres
        have HC3 := Lib.hid hc3
        have HF3 := Lib.hid hf3
        clear hres hc3 hf3 hfs hhead hput hzl hcl10 hzs hjl hcj hgo
        go_wp2
        go_ret
        exact ⟨_, rfl, HRES.out, ⟨_, HC3.out⟩, HF3.out, rfl⟩
end Go.Proofs.Ytopglbkcciigbaa
