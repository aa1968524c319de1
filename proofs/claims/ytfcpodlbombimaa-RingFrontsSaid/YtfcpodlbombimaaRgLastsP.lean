/- RingLasts: plain laws; what the ring's functions keep for an iterator under way. No conditions. -/
import Derived.Test.YtfcpodlbombimaaRgList
namespace Go.Proofs.Ytfcpodlbombimaa
open Go.RowKit
set_option linter.unusedSimpArgs false
set_option linter.unusedVariables false
theorem lasts_push (l : List Int) (n : Int) (hl : l.length ≤ 1000) : pushR [l, []] 0 n = [outI l n ++ [n], []] := by
  have h1 : may [l, []] 0 n = true := by simp [may]; omega
  unfold pushR
  rw [if_pos h1]
  simp [putL, remL, outI]
theorem outI_head (y : Int) (t : List Int) (hn : (y :: t).Nodup) : outI (y :: t) y = t := by
  unfold outI
  rw [List.filter_cons]
  simp only [decide_true, Bool.not_true, Bool.false_eq_true, if_false]
  exact filt_not (List.nodup_cons.1 hn).1
theorem lasts_turn (y : Int) (t : List Int) (hn : (y :: t).Nodup) (hl : t.length ≤ 900) : turnRI [y :: t, []] 0 = [t ++ [y], []] := by
  have h1 : rowAtI [y :: t, []] 0 = y :: t := rfl
  unfold turnRI
  rw [h1]
  simp only
  rw [lasts_push _ _ (by simp; omega), outI_head y t hn]
theorem lasts_step (A B : List Int) (x q : Int) (hc : A.length + B.length < 4096) : remL (pushR [A, B] 1 x) q = [outI (outI A x) q, outI (outI B x ++ [x]) q] := by
  have h1 : may [A, B] 1 x = true := by simp [may]; omega
  unfold pushR
  rw [if_pos h1]
  simp [putL, remL, outI]
theorem outI_mem {l : List Int} {n y : Int} (h : y ∈ outI l n) : y ∈ l ∧ y ≠ n := by
  unfold outI at h
  simpa using h
/-- The blocks that a loop over a ring may write. -/
def RingD (b r lb : Nat) (W : World) (k : Nat) : Prop := k = b ∨ k = r ∨ (∃ (j : Nat) (v : Value), W.cell? ⟨r, j, none⟩ = some v ∧ v.ownBlock = some k) ∨ BoxD lb W k
theorem RTI.cells {w : World} {b r m : Nat} {vs : List Value} {L : List (List Int)} {Wm : List (Int × Int)} (h : RTI w b r m vs L Wm) {k : Nat} (hk : RSI b r m vs k) (hm : k ≠ m) : ∃ c t f, ob w k = some (.cells c t f) := by
  rcases hk with rfl | rfl | rfl | ⟨v, hv, hk⟩
  · exact ⟨_, _, _, h.blk⟩
  · exact ⟨_, _, _, h.rows⟩
  · exact absurd rfl hm
  · obtain ⟨i, hi⟩ := List.mem_iff_getElem?.1 hv
    have hl : L[i]? = some (L[i]'(by rw [← h.vlen]; exact (List.getElem?_eq_some_iff.1 hi).1)) := List.getElem?_eq_getElem _
    have hs : Sl w 3 1 v _ := h.row i v _ hi hl
    exact Sl.isCells hs hk
theorem RTI.inD {w : World} {b r m : Nat} {vs : List Value} {L : List (List Int)} {Wm : List (Int × Int)} (h : RTI w b r m vs L Wm) (lb : Nat) {k : Nat} (hk : RSI b r m vs k) (hm : k ≠ m) : RingD b r lb w k := by
  rcases hk with rfl | rfl | rfl | ⟨v, hv, hk⟩
  · exact .inl rfl
  · exact .inr (.inl rfl)
  · exact absurd rfl hm
  · obtain ⟨i, hi⟩ := List.mem_iff_getElem?.1 hv
    refine .inr (.inr (.inl ⟨i, v, ?_, hk⟩))
    rw [cell_of_ob h.rows]; simpa using hi
theorem RTI.rowcell {w : World} {b r m : Nat} {vs : List Value} {L : List (List Int)} {Wm : List (Int × Int)} (h : RTI w b r m vs L Wm) {j k : Nat} {v : Value} (hv : w.cell? ⟨r, j, none⟩ = some v) (hk : v.ownBlock = some k) : RSI b r m vs k ∧ k ≠ m := by
  rw [cell_of_ob h.rows] at hv
  have hv2 : vs[j]? = some v := by simpa using hv
  exact ⟨.inr (.inr (.inr ⟨v, List.mem_of_getElem? hv2, hk⟩)), fun e => h.mb.2.2 j v hv2 (e ▸ hk)⟩
theorem ring_step {w w1 : World} {b r m lb : Nat} {vs vs1 : List Value} {L L1 : List (List Int)} {Wm Wm1 : List (Int × Int)} {u : Value} {t : TypeId} {f : Nat × Nat} (h : RTI w b r m vs L Wm) (h1 : RTI w1 b r m vs1 L1 Wm1) (hf : Fr (RSI b r m vs) w w1)
    (hs : ∀ k, RSI b r m vs1 k → RSI b r m vs k ∨ w.heap.size ≤ k) (hlb : ob w lb = some (.cells #[u] t f)) (hn : ¬ RSI b r m vs lb) : K2 (RingD b r lb) w w1 where
  size := hf.size
  keep k c t f hd ho := hf.keep (fun hk => hd (h.inD lb hk (fun e => by
    obtain ⟨es, c, hm, -⟩ := h.all
    rw [e, hm] at ho; cases ho))) ho
  own k hk := by
    rcases hk with rfl | rfl | ⟨j, v, hv, hk⟩ | hk
    · exact .inl (.inl rfl)
    · exact .inl (.inr (.inl rfl))
    · obtain ⟨h2, h3⟩ := h1.rowcell hv hk
      exact (hs k h2).imp_left (fun h4 => h.inD lb h4 h3)
    · have hlb1 := hf.keep hn hlb
      rcases hk with rfl | ⟨v, hv, hk⟩
      · exact .inl (.inr (.inr (.inr (.inl rfl))))
      · rw [cell_of_ob hlb1] at hv
        exact .inl (.inr (.inr (.inr (.inr ⟨v, by rw [cell_of_ob hlb]; exact hv, hk⟩))))
theorem ring_keeps {w w1 : World} {b r m B : Nat} {vs : List Value} {L : List (List Int)} {Wm : List (Int × Int)} (h : RTI w b r m vs L Wm) (hf : Fr (RSI b r m vs) w w1) (hB : m < B) : KeepsFrom B w w1 where
  size := hf.size
  same k o hk ho hc := by
    refine (hf.block k (Array.getElem?_eq_some_iff.1 ho).1 (fun hs => ?_)).trans ho
    obtain ⟨c, t, f, h2⟩ := h.cells hs (by omega)
    have h3 : w.heap[k]? = some (.cells c t f) := h2
    rw [ho] at h3; cases h3; cases hc
theorem box_step {w w1 : World} {b r m lb : Nat} {vs : List Value} {L : List (List Int)} {Wm : List (Int × Int)} {u u1 : Value} {t : TypeId} {f : Nat × Nat} (h : RTI w b r m vs L Wm) (hf : Fr (fun k => k = lb ∨ u.ownBlock = some k) w w1)
    (hlb : ob w lb = some (.cells #[u] t f)) (hlb1 : ob w1 lb = some (.cells #[u1] t f)) (ho : ∀ k, u1.ownBlock = some k → u.ownBlock = some k ∨ w.heap.size ≤ k) (hr : r ≠ lb ∧ u.ownBlock ≠ some r) : K2 (RingD b r lb) w w1 where
  size := hf.size
  keep k c t f hd ho2 := hf.keep (fun hk => hd (hk.elim (fun e => .inr (.inr (.inr (.inl e)))) (fun e => .inr (.inr (.inr (.inr ⟨u, by rw [cell_of_ob hlb]; rfl, e⟩)))))) ho2
  own k hk := by
    have hr1 := hf.keep (fun e => e.elim hr.1 hr.2) h.rows
    rcases hk with rfl | rfl | ⟨j, v, hv, hk⟩ | hk
    · exact .inl (.inl rfl)
    · exact .inl (.inr (.inl rfl))
    · exact .inl (.inr (.inr (.inl ⟨j, v, by rw [cell_of_ob h.rows, ← cell_of_ob hr1]; exact hv, hk⟩)))
    · rcases hk with rfl | ⟨v, hv, hk⟩
      · exact .inl (.inr (.inr (.inr (.inl rfl))))
      · rw [cell_of_ob hlb1] at hv
        cases hv
        exact (ho k hk).imp_left (fun e => .inr (.inr (.inr (.inr ⟨u, by rw [cell_of_ob hlb]; rfl, e⟩))))
/-- A row of a ring that abides what an iterator turns. -/
theorem RTI.grown {W W' : World} {row : Option Nat} {b r m B : Nat} {vs : List Value} {L : List (List Int)} {Wm : List (Int × Int)} (h : RTI W b r m vs L Wm) (hm : m < B) (hg : W.grownBy W' row) (hr : ∀ r, row = some r → B ≤ r ∧ ∃ o : Obj, W.heap[r]? = some o ∧ o.isCells = false) : RTI W' b r m vs L Wm where
  blk := ob_kept h.blk hg (fun r e => (hr r e).2)
  rows := ob_kept h.rows hg (fun r e => (hr r e).2)
  vlen := h.vlen
  row i v l hv hl := Sl.kept (h.row i v l hv hl) hg (fun r e => (hr r e).2)
  sep := h.sep
  off := h.off
  br := h.br
  all := h.all.of (hg.block m h.all.lt (fun e => by have := (hr m e.symm).1; omega))
  pos := h.pos
  few := h.few
end Go.Proofs.Ytfcpodlbombimaa
