/- A ring beside a slice of numbers; the plain laws of RingOnce. No conditions. -/
import Derived.Test.YtfcpodlbombimaaRgWo
namespace Go.Proofs.Ytfcpodlbombimaa
open Go.RowKit
set_option linter.unusedSimpArgs false
set_option linter.unusedVariables false
/-- A ring and a slice of numbers side by side; the blocks of P are neither's. -/
def OS (P : Nat → Prop) (W w : World) (b r m : Nat) (L : List (List Int)) (v : Value) (inn : List Int) : Prop :=
  ∃ S, RXI w S b r m L ∧ SKI w v inn ∧ (∀ k, v.ownBlock = some k → ¬ S k ∧ W.heap.size ≤ k) ∧ (∀ k, S k → W.heap.size ≤ k ∧ ¬ P k) ∧ Fr (fun _ => False) W w
section
variable {P P2 : Nat → Prop} {W w w1 : World} {b r m : Nat} {L L1 : List (List Int)} {v v1 : Value} {inn inn1 : List Int}
theorem OS.keep (h : OS P W w b r m L v inn) (hf : Fr (fun _ => False) w w1) : OS P W w1 b r m L v inn :=
  let ⟨S, h1, h2, h3, h4, h5⟩ := h
  ⟨S, h1.keep hf, Sl.fr h2 hf (fun _ _ h => h), h3, h4, alsoI h5 hf⟩
theorem OS.hf (h : OS P W w b r m L v inn) : Fr (fun _ => False) W w := let ⟨S, h1, h2, h3, h4, h5⟩ := h; h5
theorem OS.sl (h : OS P W w b r m L v inn) : SKI w v inn := let ⟨S, h1, h2, h3, h4, h5⟩ := h; h2
theorem OS.rx (h : OS P W w b r m L v inn) : ∃ S, RXI w S b r m L := let ⟨S, h1, h2, h3, h4, h5⟩ := h; ⟨S, h1⟩
theorem OS.nodup (h : OS P W w b r m L v inn) : L.flatten.Nodup := let ⟨S, h1⟩ := h.rx; h1.nodup
/-- Other blocks are safe: none of them is there yet. -/
theorem OS.safe (h : OS P W w b r m L v inn) (hP : ∀ k, P2 k → ¬ P k → w.heap.size ≤ k) : OS P2 W w b r m L v inn :=
  let ⟨S, h1, h2, h3, h4, h5⟩ := h
  ⟨fun k => S k ∧ k < w.heap.size, h1.cut, h2, fun k hk => ⟨fun h => (h3 k hk).1 h.1, (h3 k hk).2⟩, fun k hk => ⟨(h4 k hk.1).1, fun hp => by
    have := hP k hp (h4 k hk.1).2
    have := hk.2; omega⟩, h5⟩
/-- Another slice. -/
theorem OS.newv (h : OS P W w b r m L v inn) (hf : Fr (fun _ => False) w w1) (hs : SKI w1 v1 inn1) (ho : ∀ k, v1.ownBlock = some k → w.heap.size ≤ k) : OS P W w1 b r m L v1 inn1 :=
  let ⟨S, h1, h2, h3, h4, h5⟩ := h
  ⟨fun k => S k ∧ k < w.heap.size, h1.cut.keep hf, hs, fun k hk => ⟨fun h => by have := ho k hk; have := h.2; omega, Nat.le_trans h5.size (ho k hk)⟩, fun k hk => h4 k hk.1, alsoI h5 hf⟩
theorem OS.call {f : FuncId} {args : Array Value} {R : Ending → Prop} (h : OS P W w b r m L v inn) (hP : ∀ k, P k → k < w.heap.size)
    (hc : ∀ S, RXI w S b r m L → Calls Try.prog f args w fun e w' => R e ∧ RXI w' (fun k => S k ∨ w.heap.size ≤ k) b r m L1 ∧ Fr S w w') :
    Calls Try.prog f args w fun e w' => R e ∧ OS P W w' b r m L1 v inn ∧ ∀ k o, P k → ob w k = some o → ob w' k = some o := by
  obtain ⟨S, h1, h2, h3, h4, h5⟩ := h
  refine (hc S h1).mono ?_
  rintro e w' ⟨he, h', hf⟩
  refine ⟨he, ⟨_, h', Sl.fr h2 hf (fun k hk => (h3 k hk).1), fun k hk => ⟨fun h => h.elim (h3 k hk).1 (fun h => by have := Sl.lt h2 hk; omega), (h3 k hk).2⟩, fun k hk => ?_, h5.step hf (fun k hk => .inr (h4 k hk).1)⟩, fun k o hp ho => hf.keep (fun hs => (h4 k hs).2 hp) ho⟩
  rcases hk with hk | hk
  · exact h4 k hk
  · exact ⟨Nat.le_trans h5.size hk, fun hp => by have := hP k hp; omega⟩
end
theorem where_at {w : World} {S : Nat → Prop} {b r m : Nat} {L : List (List Int)} (h : RXI w S b r m L) {j : Nat} {l : List Int} {x : Int} (hl : L[j]? = some l) (hx : x ∈ l) :
    Calls Try.prog 23 #[.pointer (some ⟨b, 0, none⟩), .int .i64 x] w fun e w' => e = .returned (.tuple #[.int .i64 j, .bool true]) ∧ w' = w := by
  obtain ⟨vs, Wm, h1, h2, h3⟩ := h
  have := whereI_any h1 x
  rw [h2.get_in hl hx] at this
  exact this
theorem outI_perm {l l2 : List Int} (h : l.Perm l2) (x : Int) : (outI l x).Perm (outI l2 x) := h.filter _
theorem once_put {L L' : List (List Int)} {inn : List Int} {x : Int} (h : inn.Perm L.flatten) (hp : L'.flatten.Perm (x :: outI L.flatten x)) : (outI inn x ++ [x]).Perm L'.flatten :=
  (List.perm_append_comm.trans ((outI_perm h x).cons x)).trans hp.symm
theorem once_rem {L : List (List Int)} {inn : List Int} {x : Int} (h : inn.Perm L.flatten) : (outI inn x).Perm (remL L x).flatten := by
  rw [flat_rem]; exact outI_perm h x
theorem once_has {L : List (List Int)} {inn : List Int} {x : Int} (h : inn.Perm L.flatten) (hn : L.flatten.Nodup) : hasR L x = decide (((outI inn x).length : Int) < inn.length) := by
  by_cases hx : x ∈ L.flatten
  · rw [hasR_true hx]
    have := flt_len (h.nodup_iff.2 hn) (h.mem_iff.2 hx)
    exact (decide_eq_true (by omega)).symm
  · rw [hasR_false hx, flt_out (fun e => hx (h.mem_iff.1 e))]
    exact (decide_eq_false (by omega)).symm
/-- How many stand in the first rows. -/
def cntL (L : List (List Int)) (q : Nat) : Nat := (L.take q).flatten.length
theorem cntL_succ {L : List (List Int)} {q : Nat} {l : List Int} (h : L[q]? = some l) : cntL L (q + 1) = cntL L q + l.length := by
  unfold cntL
  rw [List.take_add_one, h]
  simp
theorem cntL_le (L : List (List Int)) (q : Nat) : cntL L q ≤ L.flatten.length := by
  unfold cntL
  conv => rhs; rw [← List.take_append_drop q L, List.flatten_append, List.length_append]
  omega
theorem cntL_all {L : List (List Int)} {q : Nat} (h : L.length ≤ q) : cntL L q = L.flatten.length := by unfold cntL; rw [List.take_of_length_le h]
end Go.Proofs.Ytfcpodlbombimaa
