/- Slices of numbers: append of one; what came in; the plain law of RingOrder. Conditions: bounds on lengths where something grows. -/
import Derived.Test.YtfcpodlbombimaaRgHI
import Derived.Test.YtfcpodlbombimaaRgLives
import Derived.Test.YtfcpodlbombimaaOpen
namespace Go.Proofs.Ytfcpodlbombimaa
open Go.RowKit
set_option linter.unusedSimpArgs false
set_option linter.unusedVariables false
section
variable {ops : Array Oper} {Q : Exit → Act → World → Prop} {a : Act} {rest : List Oper} {o : Oper} {w : World} {v : Value} {l : List Int}
theorem wpList_appI (hg : o.guard = none) (s x : Operand) (ho : o.op = .call { callee := .builtin .append, args := #[s, x], argTypes := #[22, 22] })
    (hs : a.eval s = v) (h : SKI w v l) (g : Nat) (n : Int) (hx : a.eval x = .slice (some ⟨g, 0, none⟩) 1 1) {f : Nat × Nat} (hgo : ob w g = some (.cells #[.int .i64 n] 3 f)) (hl : l.length ≤ 1000000)
    (hn : ∀ A2 N2 C2 w', SKI w' (.slice A2 N2 C2) (l ++ [n]) → Fr (fun k => v.ownBlock = some k) w w' → (∀ k, (Value.slice A2 N2 C2).ownBlock = some k → v.ownBlock = some k ∨ w.heap.size ≤ k) → wpList Try.prog ops Q rest (a.put o.dst (.slice A2 N2 C2)) w') :
    wpList Try.prog ops Q (o :: rest) a w := by
  obtain ⟨i0, hi, hz, hsz, hby⟩ := infoofI zeroI
  have hlen := SKI.elen h
  refine wpList_app hg s x _ ho Try.underlying22 hi hz hsz hby rfl (by decide) hs h g 1 1 [.int .i64 n] hx hgo rfl (by simp [Value.oneCell']) (by decide) (by simp only [maxLen]; omega) (by omega) ?_
  intro v2 w2 hs2 hf2 ho2 hl2
  obtain ⟨A2, N2, C2, rfl⟩ := hs2.shape
  refine hn A2 N2 C2 w2 ?_ hf2 (fun k hk => ?_)
  · have e : kvsI l ++ [.int .i64 n] = kvsI (l ++ [n]) := by simp [kvsI, kvI]
    rw [e] at hs2
    exact hs2
  · rcases ho2 with h4 | ⟨q, h4, h5⟩
    · left; rw [← h4]; exact hk
    · rw [h4] at hk; cases hk; right; exact h5
end
/-- Numbers that came in. -/
abbrev RdI (w : World) (v : Value) (l : List Int) : Prop := Rd w 1 v (kvsI l)
theorem RdI.elen {w : World} {v : Value} {l : List Int} (h : RdI w v l) : sliceLen v = l.length := by
  have := h.len; simp only [List.length_map] at this; omega
theorem RdI.item {w : World} {v : Value} {l : List Int} (h : RdI w v l) {j : Nat} {x : Int} (hx : l[j]? = some x) :
    ∃ g off n cap, v = .slice (some ⟨g, off, none⟩) n cap ∧ g < w.heap.size ∧ n = l.length ∧ w.cell? ⟨g, off + j, none⟩ = some (.int .i64 x) := by
  have hj : (kvsI l)[j]? = some (.int .i64 x) := by rw [List.getElem?_map, hx]; rfl
  obtain ⟨g, off, n', cap', heq, hgl, hcs, hl⟩ := Rd.form h (by intro e; rw [e] at hj; cases hj)
  simp only [List.length_map] at hl
  exact ⟨g, off, n', cap', heq, hgl, by omega, hcs _ _ hj⟩
theorem RXI.nodup {w : World} {S : Nat → Prop} {b r m : Nat} {L : List (List Int)} (h : RXI w S b r m L) : L.flatten.Nodup := let ⟨_, _, _, hg, _⟩ := h; hg.flat
/-- The numbers without one. -/
def outI (l : List Int) (n : Int) : List Int := l.filter (fun y => !decide (y = n))
theorem outI_len (l : List Int) (n : Int) : (outI l n).length ≤ l.length := List.length_filter_le _ _
theorem outI_snoc {l : List Int} {j : Nat} {x : Int} (n : Int) (hx : l[j]? = some x) : outI (l.take (j + 1)) n = outI (l.take j) n ++ if x = n then [] else [x] := by
  unfold outI
  rw [List.take_add_one, hx, List.filter_append]
  congr 1
  by_cases h : x = n <;> simp [h]
theorem order_push (want : List Int) (r : Int) (n : Int) (hr : r = 0 ∨ r = 1) (hw : want.length ≤ 1000) :
    pushR (pushR [[], want, []] r n) 1 n = [[], outI want n ++ [n], []] := by
  have hlen := outI_len want n
  have h1 : may [[], want, []] r n = true := by rcases hr with rfl | rfl <;> simp [may] <;> omega
  have e1 : pushR [[], want, []] r n = putL [[], outI want n, []] r (· ++ [n]) := by unfold pushR; rw [if_pos h1]; rfl
  rw [e1]
  have e2 : remL (putL [[], outI want n, []] r (· ++ [n])) n = [[], outI want n, []] := by
    rcases hr with rfl | rfl <;> simp [putL, remL, outI, List.filter_filter]
  have h2 : may (putL [[], outI want n, []] r (· ++ [n])) 1 n = true := by
    rcases hr with rfl | rfl <;> simp [may, putL]
  unfold pushR
  rw [if_pos h2, e2]
  simp [putL]
theorem order_shift (y : Int) (t : List Int) (hn : (y :: t).Nodup) : shiftRI [[], y :: t, []] 1 = [[], t, []] := by
  have h1 : rowAtI [[], y :: t, []] 1 = y :: t := rfl
  unfold shiftRI
  rw [h1]
  simp only [remL, List.map_cons, List.map_nil, List.filter_nil]
  rw [List.filter_cons]
  simp only [decide_true, Bool.not_true, Bool.false_eq_true, if_false]
  rw [filt_not (List.nodup_cons.1 hn).1]
end Go.Proofs.Ytfcpodlbombimaa
