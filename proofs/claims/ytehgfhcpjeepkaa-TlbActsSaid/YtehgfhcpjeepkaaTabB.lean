/- tlb.Table in memory: Find, Len, New. -/
import Derived.Test.YtehgfhcpjeepkaaTab
namespace Go.Proofs.Ytehgfhcpjeepkaa
open Go.RowKit
set_option linter.unusedSimpArgs false
set_option linter.unusedVariables false
/-- A table of at most n keys at block b; its keys lie in the slice kv, what is kept in the map m. -/
structure Tab (w : World) (b : Nat) (n : Int) (kv : Value) (m : Nat) (l : List (K2 × K2)) : Prop where
  blk : ob w b = some (.cells #[.int .i64 n, kv, .map (some m)] 58 (0, 0))
  keys : Sl w 27 2 kv ((l.map (·.1)).flatMap k2s)
  kept : MapIs k2 k2 w m l
section
variable {w w1 : World} {b : Nat} {n : Int} {kv : Value} {m : Nat} {l : List (K2 × K2)}
def tabS (b : Nat) (kv : Value) (m : Nat) (k : Nat) : Prop := k = b ∨ k = m ∨ kv.ownBlock = some k
theorem Tab.lt (h : Tab w b n kv m l) : b < w.heap.size := ob_lt h.blk
theorem Tab.mlt (h : Tab w b n kv m l) : m < w.heap.size := h.kept.lt
theorem Tab.of (h : Tab w b n kv m l) (ho : ∀ k, tabS b kv m k → k < w.heap.size → ob w1 k = ob w k) : Tab w1 b n kv m l :=
  ⟨(ho b (.inl rfl) h.lt).trans h.blk, h.keys.of fun k hk => ho k (.inr (.inr hk)) (h.keys.lt hk), h.kept.of (ho m (.inr (.inl rfl)) h.mlt)⟩
theorem Tab.fr {S : Nat → Prop} (h : Tab w b n kv m l) (hf : Fr S w w1) (hn : ∀ k, tabS b kv m k → ¬ S k) : Tab w1 b n kv m l := h.of fun k hk hlt => hf.block k hlt (hn k hk)
theorem Tab.bm (h : Tab w b n kv m l) : b ≠ m := fun e => by
  obtain ⟨es, c, h1, _⟩ := h.kept
  have := h.blk
  rw [e, h1] at this
  cases this
theorem Tab.bk (h : Tab w b n kv m l) : kv.ownBlock ≠ some b := fun e => by
  rcases h.keys with ⟨rfl, _⟩ | ⟨g, off, n, cap, row, rfl, ho, _⟩
  · cases e
  · cases e
    have := h.blk
    rw [ho] at this
    cases this
theorem Tab.mk' (h : Tab w b n kv m l) : kv.ownBlock ≠ some m := fun e => by
  obtain ⟨es, c, h1, _⟩ := h.kept
  rcases h.keys with ⟨rfl, _⟩ | ⟨g, off, n, cap, row, rfl, ho, _⟩
  · cases e
  · cases e
    rw [ho] at h1
    cases h1
end
theorem len_flat : ∀ (l : List K2), (l.flatMap k2s).length = l.length * 2
  | [] => rfl
  | x :: l => by simp [len_flat l, k2s]; omega
theorem zeroPTE (w : World) : (zeroValue 29).run Try.prog w = .ok (k2 (0, 0)) w := by kernel_rfl
set_option maxHeartbeats 400000 in
theorem find_any {w : World} {b : Nat} {n : Int} {kv : Value} {m : Nat} {l : List (K2 × K2)} (h : Tab w b n kv m l) (k : K2) :
    Calls Try.prog 21 #[.pointer (some ⟨b, 0, none⟩), .agg #[.int .i64 k.1, .int .i64 k.2]] w fun e w' =>
      e = .returned (.tuple #[k2 ((alGet l k).getD (0, 0)), .bool (alGet l k).isSome]) ∧ Fr (fun _ => False) w w' := by
  have c2 : w.cell? ⟨b, 2, none⟩ = some (.map (some m)) := cell_of_ob h.blk 2
  have hb := h.lt
  have hml := h.mlt
  obtain ⟨r, hr⟩ : ∃ r, r = (alGet l k).getD (0, 0) := ⟨_, rfl⟩
  obtain ⟨ok, hok⟩ : ∃ ok, ok = (alGet l k).isSome := ⟨_, rfl⟩
  rw [← hr, ← hok]
  have Hr := Lib.hid hr
  have Hok := Lib.hid hok
  clear hr hok
  go_enter Try.func21, Try.ntmps21
  go_wp2
  refine wp_region_canon [0, 1, 2, 3, 4, 5, 6, 7, 8, 9, 10, 11] (by kernel_rfl) (by kernel_rfl) (fun K hK => ?_)
  simp only [List.map_cons, List.map_nil, List.getD_cons_succ, List.getD_cons_zero]
  go_wp2_with (at_lookup; go_must (refine wpList_look2 rfl _ _ _ rfl rfl k rfl key_k2 Try.underlying56 (0, 0) zeroPTE (h.kept.of (by go_simp)) r ok Hr.out.symm Hok.out.symm ?_; simp only [k2]))
  refine hK _ _ (by kernel_rfl) ?_
  clear hK K
  go_wp2
  exact bodyPost_ret (v := .tuple #[.agg #[.int .i64 r.1, .int .i64 r.2], .bool ok]) (by simp [results, Try.results21, go_sem]) rfl ⟨rfl, ((((Fr.refl _ _).alloc _).alloc _).alloc _).drew⟩
theorem len_any {w : World} {b : Nat} {n : Int} {kv : Value} {m : Nat} {l : List (K2 × K2)} (h : Tab w b n kv m l) :
    Calls Try.prog 12 #[.pointer (some ⟨b, 0, none⟩)] w fun e w' => e = .returned (.int .i64 l.length) ∧ w = w' := by
  have hl := h.keys.len
  have hk := h.keys
  obtain ⟨A, N, C, rfl⟩ : ∃ A N C, kv = .slice A N C := by
    rcases h.keys with ⟨rfl, _⟩ | ⟨g, off, n, cap, row, rfl, _⟩ <;> exact ⟨_, _, _, rfl⟩
  have hN : (N : Int) = l.length := by
    rw [len_flat, List.length_map] at hl
    simp only [sliceLen] at hl
    omega
  rw [← hN]
  have c1 : w.cell? ⟨b, 1, none⟩ = some (.slice A N C) := cell_of_ob h.blk 1
  clear hN hl
  go_enter Try.func12, Try.ntmps12
  go_wp2
  go_ret
  exact ⟨rfl, rfl⟩
theorem zeroKey : (Try.prog.info? 27).map (fun i => (i.zero, i.size, i.bytes)) = some (some (k2 (0, 0)), 2, 16) := by kernel_rfl
theorem info_of {P : Program} {e : TypeId} {z : Value} {s b : Nat} (h : (P.info? e).map (fun i => (i.zero, i.size, i.bytes)) = some (some z, s, b)) : ∃ i, P.info? e = some i ∧ i.zero = some z ∧ i.size = s ∧ i.bytes = b := by
  cases hi : P.info? e with
  | none => rw [hi] at h; cases h
  | some i => rw [hi] at h; simp at h; exact ⟨i, rfl, h.1, h.2.1, h.2.2⟩
theorem one_k2s (l : List K2) : ∀ u ∈ l.flatMap k2s, u.oneCell' = true := by
  intro u hu
  obtain ⟨x, _, hx⟩ := List.mem_flatMap.1 hu
  simp only [k2s, List.mem_cons, List.not_mem_nil, or_false] at hx
  rcases hx with rfl | rfl <;> rfl
set_option maxHeartbeats 400000 in
theorem clone_any {w : World} {v : Value} {l : List K2} (h : Sl w 27 2 v (l.flatMap k2s)) (hl : l.length ≤ 1000000) :
    Calls Try.prog 25 #[v] w fun e w' => ∃ v', e = .returned v' ∧ Sl w' 27 2 v' (l.flatMap k2s) ∧ Fr (fun _ => False) w w' ∧ ∀ k, v'.ownBlock = some k → w.heap.size ≤ k := by
  obtain ⟨i, hi, hz, hs, hb⟩ := info_of zeroKey
  have hlen : sliceLen v = l.length := by
    have := h.len
    rw [len_flat] at this
    omega
  have H := Lib.hid hlen
  clear hlen
  rcases (id h) with ⟨rfl, h0⟩ | ⟨g, off, n, cap, row, rfl, _⟩
  · go_enter Try.func25, Try.ntmps25
    go_wp2
    go_ret
    refine ⟨_, rfl, h, Fr.refl _ _, fun k hk => by cases hk⟩
  · go_enter Try.func25, Try.ntmps25
    go_wp2_with (at_builtin; go_must (refine wpList_appsrc (v := .slice (some ⟨w.heap.size, 0, none⟩) 0 0) (y := .slice (some ⟨g, off, none⟩) n cap) rfl _ _ _ rfl Try.underlying30 hi hz hs hb rfl (by decide) rfl (Sl.built w [] 0 rfl (by decide)) rfl (h.alloc _) (one_k2s l) (by rw [H.out]; simp only [sliceLen, maxLen]; omega) (by rw [H.out]; simp only [sliceLen]; omega) ?_; intro v' w' h2 h3 h4 h5))
    go_ret
    exact ⟨v', rfl, h2, ((Fr.refl _ w).alloc _).step h3 (fun k hk => .inr (by cases hk; exact Nat.le_refl _)), fun k hk => by
      rcases h4 with h4 | ⟨j, h4, h6⟩
      · rw [h4] at hk; cases hk; exact Nat.le_refl _
      · rw [h4] at hk; cases hk; simp at h6; omega⟩
theorem new_any (n : Int) (h0 : 0 ≤ n) (h1 : n ≤ 1024) (w : World) :
    Calls Try.prog 8 #[.int .i64 n] w fun e w' => ∃ b m, e = .returned (.pointer (some ⟨b, 0, none⟩)) ∧ Tab w' b n (.slice none 0 0) m [] ∧ Fr (fun _ => False) w w' ∧ w.heap.size ≤ b ∧ w.heap.size ≤ m := by
  have hmm := @run_makeMap Try.prog
  go_enter Try.func8, Try.ntmps8
  go_wp2
  go_ret
  refine ⟨_, _, rfl, ⟨ob_newAt _ _ _ (by simp), Sl.nil _ _ _, (MapIs.new w).of (ob_alloc _ _ _ (by simp))⟩, ((Fr.refl _ w).alloc _).alloc _, by omega, Nat.le_refl _⟩
end Go.Proofs.Ytehgfhcpjeepkaa
