/- anon's heap of free numbers: push. Conditions: at most 100000 numbers. -/
import Derived.Test.YtalinhpdibdlkaaAnHeap
import Derived.Test.YtalinhpdibdlkaaMapsC
import Derived.Test.YtalinhpdibdlkaaCanonH
import Derived.Deep.DeepCutAuto
namespace Go.Proofs.Ytalinhpdibdlkaa
open Go.RowKit
set_option linter.unusedSimpArgs false
set_option linter.unusedVariables false
abbrev ints (l : List Int) : List Value := l.map (Value.int .i64)
theorem zeroInt : (Try.prog.info? 3).map (fun i => (i.zero, i.size, i.bytes)) = some (some (.int .i64 0), 1, 8) := by kernel_rfl
theorem info_of {P : Program} {e : TypeId} {z : Value} {s b : Nat} (h : (P.info? e).map (fun i => (i.zero, i.size, i.bytes)) = some (some z, s, b)) : ∃ i, P.info? e = some i ∧ i.zero = some z ∧ i.size = s ∧ i.bytes = b := by
  cases hi : P.info? e with
  | none => rw [hi] at h; cases h
  | some i => rw [hi] at h; simp at h; exact ⟨i, rfl, h.1, h.2.1, h.2.2⟩
theorem Fr.also {w w1 w2 : World} (h : Fr (fun _ => False) w w1) (k : Fr (fun _ => False) w1 w2) : Fr (fun _ => False) w w2 := h.step k (fun _ h => h.elim)
theorem ints_get (l : List Int) (i : Nat) (h : i < l.length) : (ints l)[i]? = some (.int .i64 (at' l i)) := by
  rw [at_get l i h]; simp [h]
/-- A number of a slice set anew. -/
theorem Sl.set1 {w : World} {e : TypeId} {g off n cap : Nat} {l : List Int} (h : Sl w e 1 (.slice (some ⟨g, off, none⟩) n cap) (ints l)) (i : Nat) (x : Int) (hi : i < l.length) :
    Sl (w.setCell ⟨g, off + i, none⟩ (.int .i64 x)) e 1 (.slice (some ⟨g, off, none⟩) n cap) (ints (l.set i x)) := by
  have := h.put i [.int .i64 x] (by simp; omega)
  simp only [World.setCells, List.length_cons, List.length_nil] at this
  have e1 : ints (l.set i x) = (ints l).take i ++ [.int .i64 x] ++ (ints l).drop (i + (0 + 1)) := by
    show (l.set i x).map (Value.int .i64) = _
    rw [List.map_set, List.set_eq_take_append_cons_drop, if_pos (by simpa using hi)]
    simp
  rw [e1]
  exact this
/-- The cells of one number of a slice. -/
theorem Sl.num {w : World} {e : TypeId} {v : Value} {l : List Int} (h : Sl w e 1 v (ints l)) {i : Nat} (hi : i < l.length) :
    ∃ g off n cap, v = .slice (some ⟨g, off, none⟩) n cap ∧ g < w.heap.size ∧ (∀ j, w.frozen? ⟨g, j, none⟩ = false) ∧ n = l.length ∧ ∀ j, j < l.length → w.cell? ⟨g, off + j, none⟩ = some (.int .i64 (at' l j)) := by
  obtain ⟨g, off, n, cap, rfl, hg, hc, hf, hl⟩ := h.form (by intro e0; have := congrArg List.length e0; simp at this; subst this; simp at hi)
  exact ⟨g, off, n, cap, rfl, hg, hf, by simp at hl; omega, fun j hj => hc j _ (ints_get l j hj)⟩
/-- What the pool's numbers are after a push or a pop. -/
def Freed (w : World) (b : Nat) (pre : List Value) (fv last : Value) (w' : World) (R : List Int → Prop) : Prop :=
  ∃ fv' l', ob w' b = some (.cells (pre ++ [fv', last]).toArray 63 (0, 0)) ∧ Sl w' 3 1 fv' (ints l') ∧ HeapOK l' ∧ R l' ∧ Fr (fun k => k = b ∨ fv.ownBlock = some k) w w' ∧ ∀ q, fv'.ownBlock = some q → fv.ownBlock = some q ∨ w.heap.size ≤ q
set_option maxRecDepth 100000 in
set_option maxHeartbeats 2000000 in
theorem push_any {w : World} {b : Nat} {v0 v1 v2 fv last : Value} {l : List Int} (hb : ob w b = some (.cells #[v0, v1, v2, fv, last] 63 (0, 0))) (hs : Sl w 3 1 fv (ints l)) (hh : HeapOK l) (hl : l.length ≤ 100000) (hob : fv.ownBlock ≠ some b) (n : Int) :
    Calls Try.prog 33 #[.pointer (some ⟨b, 3, none⟩), .int .i64 n] w fun e w' => e = .returned (.tuple #[]) ∧ Freed w b [v0, v1, v2] fv last w' (fun l' => l'.Perm (l ++ [n])) := by
  obtain ⟨A, N, C, rfl⟩ := hs.shape
  have hN : N = l.length := by have := hs.len; simp only [List.length_map, sliceLen] at this; omega
  have hN5 : N ≤ 100000 := by omega
  have HN := Lib.hid hN
  clear hN
  have c3 : w.cell? ⟨b, 3, none⟩ = some (.slice A N C) := cell_of_ob hb 3
  have hbl := ob_lt hb
  obtain ⟨i0, hi, hz, hsz, hby⟩ := info_of zeroInt
  go_enter Try.func33, Try.ntmps33
  go_upto_region 1 with (at_builtin; go_must (refine wpList_app (v := .slice A N C) rfl _ _ _ rfl Try.underlying61 hi hz hsz hby rfl (by decide) rfl (hs.alloc _) w.heap.size 1 1 [.int .i64 n] rfl (ob_new _ _) rfl (by simp [Value.oneCell']) (by decide) (by simp only [maxLen, sliceLen]; omega) (by simp only [sliceLen]; omega) ?_; intro v' W h2 h3 h4 h5; obtain ⟨A', L, C', rfl⟩ := h2.shape))
  have h2' : Sl W 3 1 (.slice A' L C') (ints (l ++ [n])) := by simpa [ints] using h2
  have hL : L = N + 1 := by simpa [sliceLen] using h5
  obtain ⟨g, off, n', cap', heq, hgl, -, -, -⟩ := h2'.num (i := l.length) (by simp)
  cases heq
  have hg : (Value.slice A N C).ownBlock = some g ∨ w.heap.size ≤ g := by
    rcases h4 with h4 | ⟨q, h4, hq⟩
    · exact .inl h4.symm
    · have : g = q := Option.some.inj h4
      simp at hq; exact .inr (by omega)
  have hgb : g ≠ b := fun e => by
    rcases hg with h | h
    · exact hob (by rw [h, e])
    · omega
  have hfW : Fr (fun k => k = b ∨ (Value.slice A N C).ownBlock = some k) w W := (((Fr.refl _ w).alloc _).step h3 (fun k hk => .inl (.inr hk)))
  have hbW : ob W b = some (.cells #[v0, v1, v2, .slice A N C, last] 63 (0, 0)) := h3.keep (fun e => hob e) (by rw [ob_alloc _ _ _ hbl]; exact hb)
  have hLn : (L : Int) - 1 = (N : Int) := by omega
  have HL := Lib.hid hL
  clear h2 h3 h4 h5 hL c3
  go_wp2_with fail
  clear hLn
  go_loopw [5] (fun v wr => ∃ (i : Nat) (lc : List Int), v = .int .i64 i ∧ Sl wr 3 1 (.slice (some ⟨g, off, none⟩) L C') (ints lc) ∧ UpOK lc i ∧ lc.Perm (l ++ [n]) ∧ Fr (fun k => k = g) W wr) (fun v _ => (intOf v).toNat)
  case atStart => exact ⟨N, l ++ [n], rfl, h2', by rw [HN.out]; exact up_start l n hh, .refl _, Fr.refl _ _⟩
  case round =>
    obtain ⟨i, lc, rfl, hsl, hup, hpm, hfr⟩ := hrel
    have hlc : lc.length = L := by rw [hpm.length_eq, HL.out, HN.out]; simp
    obtain ⟨_, _, _, _, heq, hgr, hfz, -, hcs⟩ := hsl.num hup.lt
    cases heq
    have hiL : i < L := by rw [← hlc]; exact hup.lt
    have hbr := hfr.keep (fun e => hgb e.symm) hbW
    have hblr := ob_lt hbr
    have fb : wr.frozen? ⟨b, 3, none⟩ = false := frozen_of_ob hbr 3
    have cb : wr.cell? ⟨b, 3, none⟩ = some (.slice A N C) := cell_of_ob hbr 3
    have hN6 : L ≤ 100001 := by rw [HL.out]; omega
    have fin : HeapOK lc → Freed w b [v0, v1, v2] (.slice A N C) last (wr.setCell ⟨b, 3, none⟩ (.slice (some ⟨g, off, none⟩) L C')).drew (fun l' => l'.Perm (l ++ [n])) := by
      intro hOK
      refine ⟨.slice (some ⟨g, off, none⟩) L C', lc, ?_, ?_, hOK, hpm, ?_, fun q hq => ?_⟩
      · exact ob_setCell_same hbr _
      · exact (hsl.of fun q hq => ob_setCell _ _ _ _ (fun e => hgb (by have h1 : g = q := Option.some.inj hq; simp at e; omega))).drew
      · exact (((hfW.step hfr (fun k hk => by rw [hk]; rcases hg with h | h; exact .inl (.inr h); exact .inr h))).setCell _ _ (.inl (.inl rfl))).drew
      · have h1 : g = q := Option.some.inj hq
        rw [← h1]; exact hg
    by_cases h0 : i = 0
    · subst h0
      have hOK := up_end lc 0 hup (.inl rfl)
      clear hfz hcs
      go_wp2_with fail
      refine wp_region_canon [0, 1, 2, 3, 4, 5, 6, 7, 9, 10, 11, 8, 12, 13, 14] (by kernel_rfl) (by kernel_rfl) (fun K hK => ?_)
      simp only [List.map_cons, List.map_nil, List.getD_cons_succ, List.getD_cons_zero]
      go_wp2
      refine hK _ _ (by kernel_rfl) ?_
      clear hK K
      go_wp2
      go_end0
      exact ⟨rfl, fin hOK⟩
    · obtain ⟨p, hp⟩ : ∃ p, p = (i - 1) / 2 := ⟨_, rfl⟩
      have hpl : p < L := by omega
      have cp := hcs p (by omega)
      have ci := hcs i (by omega)
      have hq : ((i : Int) - 1).tdiv 2 = (p : Int) := by rw [Int.tdiv_eq_ediv_of_nonneg (by omega)]; omega
      have hi0 : (0 : Int) < i := by omega
      have hpi : p ≠ i := by omega
      have hip : i ≠ p := by omega
      have fi := hfz (off + i)
      have fp := hfz (off + p)
      obtain ⟨x, hx⟩ : ∃ x, x = at' lc i := ⟨_, rfl⟩
      obtain ⟨y, hy⟩ : ∃ y, y = at' lc p := ⟨_, rfl⟩
      rw [← hx] at ci
      rw [← hy] at cp
      have HX := Lib.hid hx
      have HY := Lib.hid hy
      have HP := Lib.hid hp
      clear hx hy hp hfz hcs
      by_cases hgt : x < y
      · go_wp2_with fail
        refine wp_region_canon [0, 1, 2, 3, 4, 5, 6, 7, 9, 10, 11, 8, 12, 13, 14] (by kernel_rfl) (by kernel_rfl) (fun K hK => ?_)
        simp only [List.map_cons, List.map_nil, List.getD_cons_succ, List.getD_cons_zero]
        go_wp2
        refine hK _ _ (by kernel_rfl) ?_
        clear hK K
        go_wp2
        refine wp_region_canon [0, 1, 2, 3, 4, 5, 6, 7, 8, 9, 10, 12, 13, 14, 11, 15, 16, 17, 18, 19] (by kernel_rfl) (by kernel_rfl) (fun K hK => ?_)
        simp only [List.map_cons, List.map_nil, List.getD_cons_succ, List.getD_cons_zero]
        go_wp2
        refine hK _ _ (by kernel_rfl) ?_
        clear hK K
        go_wp2
        go_roundw
        case rel =>
          have hsw := up_swap lc i hup (by omega) (by rw [← HP.out, ← HX.out, ← HY.out]; exact hgt)
          rw [← HP.out] at hsw
          have h1 := (hsl.set1 i y hup.lt).set1 p x (by rw [List.length_set]; omega)
          refine ⟨p, swap lc i p, rfl, ?_, hsw, (swap_perm lc i p hup.lt (by omega)).trans hpm, ?_⟩
          · unfold swap
            rw [← HX.out, ← HY.out]
            exact h1
          · exact ((hfr.setCell ⟨g, off + i, none⟩ _ (.inl rfl)).setCell ⟨g, off + p, none⟩ _ (.inl rfl)).drew.drew
        case measure => have := HP.out; simp [intOf]; omega
      · go_wp2_with fail
        refine wp_region_canon [0, 1, 2, 3, 4, 5, 6, 7, 9, 10, 11, 8, 12, 13, 14] (by kernel_rfl) (by kernel_rfl) (fun K hK => ?_)
        simp only [List.map_cons, List.map_nil, List.getD_cons_succ, List.getD_cons_zero]
        go_wp2
        refine hK _ _ (by kernel_rfl) ?_
        clear hK K
        go_wp2
        go_end0
        exact ⟨rfl, fin (up_end lc i hup (.inr (by rw [← HP.out, ← HX.out, ← HY.out]; omega)))⟩
end Go.Proofs.Ytalinhpdibdlkaa
