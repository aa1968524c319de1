/- A table and the document's side by side. No conditions. -/
import Derived.Test.YtehgfhcpjeepkaaRefC
namespace Go.Proofs.Ytehgfhcpjeepkaa
open Go.RowKit
set_option linter.unusedSimpArgs false
set_option linter.unusedVariables false
/-- Both tables; the blocks that are kept safe (Pr) are as they were in W. -/
def Both (Pr : Nat → Prop) (W w : World) (b m br : Nat) (n : Int) (lt lr : List (K2 × K2)) : Prop :=
  ∃ kv lv, Tab w b n kv m lt ∧ RTab w br n lv lr ∧ (∀ k, tabS b kv m k → ¬ rtS br lv k) ∧ (∀ k, tabS b kv m k → ¬ Pr k) ∧ (∀ k, rtS br lv k → ¬ Pr k) ∧ Fr (fun k => ¬ Pr k) W w ∧ ∀ k, Pr k → k < W.heap.size
section
variable {Pr : Nat → Prop} {W w w1 : World} {b m br : Nat} {n : Int} {lt lr : List (K2 × K2)}
theorem Tab.slt {kv : Value} (h : Tab w b n kv m lt) {k : Nat} (hk : tabS b kv m k) : k < w.heap.size := by
  rcases hk with rfl | rfl | hk
  · exact h.lt
  · exact h.mlt
  · exact h.keys.lt hk
theorem Both.keep (h : Both Pr W w b m br n lt lr) {k : Nat} {o : Obj} (hk : Pr k) (ho : ob W k = some o) : ob w k = some o := let ⟨_, _, _, _, _, _, _, hf, _⟩ := h; hf.keep (fun h => h hk) ho
theorem Both.size (h : Both Pr W w b m br n lt lr) : W.heap.size ≤ w.heap.size := let ⟨_, _, _, _, _, _, _, hf, _⟩ := h; hf.size
theorem Both.fr (h : Both Pr W w b m br n lt lr) (hf : Fr (fun _ => False) w w1) : Both Pr W w1 b m br n lt lr :=
  let ⟨kv, lv, h1, h2, h3, h4, h5, h6, h7⟩ := h
  ⟨kv, lv, h1.fr hf (fun _ _ h => h), h2.fr hf (fun _ _ h => h), h3, h4, h5, h6.step hf (fun _ h => h.elim), h7⟩
/-- The table has turned. -/
theorem Both.turnT {kv lv kv' : Value} {lt' : List (K2 × K2)} (h1 : Tab w b n kv m lt) (h2 : RTab w br n lv lr) (h3 : ∀ k, tabS b kv m k → ¬ rtS br lv k) (h4 : ∀ k, tabS b kv m k → ¬ Pr k) (h5 : ∀ k, rtS br lv k → ¬ Pr k) (h6 : Fr (fun k => ¬ Pr k) W w) (h7 : ∀ k, Pr k → k < W.heap.size)
    (g1 : Tab w1 b n kv' m lt') (g2 : Fr (tabS b kv m) w w1) (g3 : ∀ q, kv'.ownBlock = some q → kv.ownBlock = some q ∨ w.heap.size ≤ q) : Both Pr W w1 b m br n lt' lr := by
  have hs := h6.size
  have new : ∀ k, tabS b kv' m k → tabS b kv m k ∨ w.heap.size ≤ k := fun k hk => by
    rcases hk with hk | hk | hk
    · exact .inl (.inl hk)
    · exact .inl (.inr (.inl hk))
    · rcases g3 k hk with h | h
      · exact .inl (.inr (.inr h))
      · exact .inr h
  refine ⟨kv', lv, g1, h2.fr g2 (fun k hk ht => h3 k ht hk), fun k hk hr => ?_, fun k hk hp => ?_, h5, h6.step g2 (fun k hk => .inl (h4 k hk)), h7⟩
  · rcases new k hk with h | h
    · exact h3 k h hr
    · have := h2.slt hr; omega
  · rcases new k hk with h | h
    · exact h4 k h hp
    · have := h7 k hp; omega
/-- The document's has turned. -/
theorem Both.turnR {kv lv lv' : Value} {lr' : List (K2 × K2)} (h1 : Tab w b n kv m lt) (h2 : RTab w br n lv lr) (h3 : ∀ k, tabS b kv m k → ¬ rtS br lv k) (h4 : ∀ k, tabS b kv m k → ¬ Pr k) (h5 : ∀ k, rtS br lv k → ¬ Pr k) (h6 : Fr (fun k => ¬ Pr k) W w) (h7 : ∀ k, Pr k → k < W.heap.size)
    (g1 : RTab w1 br n lv' lr') (g2 : Fr (fun q => q = br) w w1) (g3 : ∀ q, lv'.ownBlock = some q → w.heap.size ≤ q) : Both Pr W w1 b m br n lt lr' := by
  have hs := h6.size
  have new : ∀ k, rtS br lv' k → k = br ∨ w.heap.size ≤ k := fun k hk => by
    rcases hk with hk | hk
    · exact .inl hk
    · exact .inr (g3 k hk)
  refine ⟨kv, lv', h1.fr g2 (fun k hk ht => h3 k hk (.inl ht)), g1, fun k hk hr => ?_, h4, fun k hk hp => ?_, h6.step g2 (fun k hk => .inl (h5 k (.inl hk))), h7⟩
  · rcases new k hr with h | h
    · exact h3 k hk (.inl h)
    · have := h1.slt hk; omega
  · rcases new k hk with h | h
    · exact h5 k (.inl h) hp
    · have := h7 k hp; omega
theorem putB (h : Both Pr W w b m br n lt lr) (hnd : (lt.map (·.1)).Nodup) (hl : lt.length ≤ 100000) (k e : K2) :
    Calls Try.prog 9 #[.pointer (some ⟨b, 0, none⟩), .agg #[.int .i64 k.1, .int .i64 k.2], .agg #[.int .i64 e.1, .int .i64 e.2]] w fun en w' =>
      en = .returned (.tuple #[]) ∧ Both Pr W w' b m br n (tput n lt k e) lr := by
  obtain ⟨kv, lv, h1, h2, h3, h4, h5, h6, h7⟩ := h
  refine (put_any h1 hnd hl k e).mono ?_
  rintro en w' ⟨rfl, kv', g1, g2, g3⟩
  exact ⟨rfl, .turnT h1 h2 h3 h4 h5 h6 h7 g1 g2 g3⟩
theorem flushedB {lt' : List (K2 × K2)} (h : Both Pr W w b m br n lt lr) (hf : ∀ kv, Tab w b n kv m lt → Flushed w b n m lt' w1) : Both Pr W w1 b m br n lt' lr := by
  obtain ⟨kv, lv, h1, h2, h3, h4, h5, h6, h7⟩ := h
  obtain ⟨kv', g1, g2, g3⟩ := hf kv h1
  exact .turnT h1 h2 h3 h4 h5 h6 h7 g1 (g2.mono' (fun k hk => hk.elim .inl (fun h => .inr (.inl h)))) (fun q hq => .inr (g3 q hq))
theorem rturnB {lr' : List (K2 × K2)} (h : Both Pr W w b m br n lt lr) (hf : ∃ lv', RTab w1 br n lv' lr' ∧ Fr (fun q => q = br) w w1 ∧ ∀ q, lv'.ownBlock = some q → w.heap.size ≤ q) : Both Pr W w1 b m br n lt lr' := by
  obtain ⟨kv, lv, h1, h2, h3, h4, h5, h6, h7⟩ := h
  obtain ⟨lv', g1, g2, g3⟩ := hf
  exact .turnR h1 h2 h3 h4 h5 h6 h7 g1 g2 g3
theorem flushB (h : Both Pr W w b m br n lt lr) (hnd : (lt.map (·.1)).Nodup) (hl : lt.length ≤ 100000) (x : K2) :
    Calls Try.prog 17 #[.pointer (some ⟨b, 0, none⟩), .agg #[.int .i64 x.1, .int .i64 x.2]] w fun e w' =>
      e = .returned (.bool (decide ((0 : Int) < lt.length - (lt.filter (fun y => !(k2eq y.1.1 y.1.2 x.1 x.2))).length))) ∧ Both Pr W w' b m br n (lt.filter (fun y => !(k2eq y.1.1 y.1.2 x.1 x.2))) lr := by
  obtain ⟨kv, lv, h1, hh⟩ := id h
  refine (flush_any h1 hnd (by omega) x).mono ?_
  rintro e w' ⟨rfl, hf⟩
  exact ⟨rfl, flushedB ⟨kv, lv, h1, hh⟩ (fun _ _ => hf)⟩
theorem flushAsidB (h : Both Pr W w b m br n lt lr) (hnd : (lt.map (·.1)).Nodup) (hl : lt.length ≤ 100000) (x : Int) :
    Calls Try.prog 11 #[.pointer (some ⟨b, 0, none⟩), .int .i64 x] w fun e w' =>
      e = .returned (.int .i64 (lt.length - (lt.filter (fun y => !(y.1.1 == x))).length)) ∧ Both Pr W w' b m br n (lt.filter (fun y => !(y.1.1 == x))) lr := by
  obtain ⟨kv, lv, h1, hh⟩ := id h
  refine (flushAsid_any h1 hnd (by omega) x).mono ?_
  rintro e w' ⟨rfl, hf⟩
  exact ⟨rfl, flushedB ⟨kv, lv, h1, hh⟩ (fun _ _ => hf)⟩
theorem flushAllB (h : Both Pr W w b m br n lt lr) (hnd : (lt.map (·.1)).Nodup) (hl : lt.length ≤ 100000) :
    Calls Try.prog 14 #[.pointer (some ⟨b, 0, none⟩)] w fun e w' => e = .returned (.int .i64 lt.length) ∧ Both Pr W w' b m br n [] lr := by
  obtain ⟨kv, lv, h1, hh⟩ := id h
  refine (flushAll_any h1 hnd (by omega)).mono ?_
  rintro e w' ⟨rfl, hf⟩
  exact ⟨rfl, flushedB ⟨kv, lv, h1, hh⟩ (fun _ _ => hf)⟩
theorem findB (h : Both Pr W w b m br n lt lr) (k : K2) :
    Calls Try.prog 21 #[.pointer (some ⟨b, 0, none⟩), .agg #[.int .i64 k.1, .int .i64 k.2]] w fun e w' =>
      e = .returned (.tuple #[k2 ((alGet lt k).getD (0, 0)), .bool (alGet lt k).isSome]) ∧ Fr (fun _ => False) w w' := by
  obtain ⟨kv, lv, h1, hh⟩ := id h
  exact find_any h1 k
theorem lenB (h : Both Pr W w b m br n lt lr) : Calls Try.prog 12 #[.pointer (some ⟨b, 0, none⟩)] w fun e w' => e = .returned (.int .i64 lt.length) ∧ w = w' := by
  obtain ⟨kv, lv, h1, hh⟩ := id h
  exact len_any h1
theorem keysB (h : Both Pr W w b m br n lt lr) (hl : lt.length ≤ 100000) : Calls Try.prog 10 #[.pointer (some ⟨b, 0, none⟩)] w fun e w' =>
    ∃ v', e = .returned v' ∧ Sl w' 27 2 v' ((lt.map (·.1)).flatMap k2s) ∧ Fr (fun _ => False) w w' := by
  obtain ⟨kv, lv, h1, hh⟩ := id h
  have c1 : w.cell? ⟨b, 1, none⟩ = some kv := cell_of_ob h1.blk 1
  have hb := h1.lt
  go_enter Try.func10, Try.ntmps10
  go_wp2_with fail
  refine (clone_any h1.keys (by simp; omega)).mono ?_
  rintro e w1 ⟨v', rfl, hs, hf, ho⟩
  go_wp2
  go_ret
  exact ⟨v', rfl, hs, hf⟩
theorem rputB (h : Both Pr W w b m br n lt lr) (hn : (lr.length : Int) ≤ n) (hl : lr.length ≤ 100000) (k e : K2) :
    Calls Try.prog 16 #[.pointer (some ⟨br, 0, none⟩), .agg #[.int .i64 k.1, .int .i64 k.2], .agg #[.int .i64 e.1, .int .i64 e.2]] w fun en w' =>
      en = .returned (.tuple #[]) ∧ Both Pr W w' b m br n lt (tput n lr k e) := by
  obtain ⟨kv, lv, h1, h2, hh⟩ := id h
  refine (rput_any h2 hn hl k e).mono ?_
  rintro en w' ⟨rfl, hf⟩
  exact ⟨rfl, rturnB h hf⟩
theorem rflushB (h : Both Pr W w b m br n lt lr) (hl : lr.length ≤ 100000) (x : K2) :
    Calls Try.prog 18 #[.pointer (some ⟨br, 0, none⟩), .agg #[.int .i64 x.1, .int .i64 x.2]] w fun e w' =>
      e = .returned (.bool (decide ((0 : Int) < lr.length - (lr.filter (fun y => !(k2eq y.1.1 y.1.2 x.1 x.2))).length))) ∧ Both Pr W w' b m br n lt (lr.filter (fun y => !(k2eq y.1.1 y.1.2 x.1 x.2))) := by
  obtain ⟨kv, lv, h1, h2, hh⟩ := id h
  refine (rflush_any h2 hl x).mono ?_
  rintro en w' ⟨rfl, hf⟩
  exact ⟨rfl, rturnB h hf⟩
theorem rflushAsidB (h : Both Pr W w b m br n lt lr) (hl : lr.length ≤ 100000) (x : Int) :
    Calls Try.prog 19 #[.pointer (some ⟨br, 0, none⟩), .int .i64 x] w fun e w' =>
      e = .returned (.int .i64 (lr.length - (lr.filter (fun y => !(y.1.1 == x))).length)) ∧ Both Pr W w' b m br n lt (lr.filter (fun y => !(y.1.1 == x))) := by
  obtain ⟨kv, lv, h1, h2, hh⟩ := id h
  refine (rflushAsid_any h2 hl x).mono ?_
  rintro en w' ⟨rfl, hf⟩
  exact ⟨rfl, rturnB h hf⟩
theorem rflushAllB (h : Both Pr W w b m br n lt lr) (hl : lr.length ≤ 100000) :
    Calls Try.prog 20 #[.pointer (some ⟨br, 0, none⟩)] w fun e w' => e = .returned (.int .i64 lr.length) ∧ Both Pr W w' b m br n lt [] := by
  obtain ⟨kv, lv, h1, h2, hh⟩ := id h
  refine (rflushAll_any h2 hl).mono ?_
  rintro en w' ⟨rfl, hf⟩
  exact ⟨rfl, rturnB h hf⟩
theorem rfindB (h : Both Pr W w b m br n lt lr) (hl : lr.length ≤ 100000) (k : K2) :
    Calls Try.prog 22 #[.pointer (some ⟨br, 0, none⟩), .agg #[.int .i64 k.1, .int .i64 k.2]] w fun e w' =>
      e = .returned (.tuple #[k2 ((alGet lr k).getD (0, 0)), .bool (alGet lr k).isSome]) ∧ Fr (fun _ => False) w w' := by
  obtain ⟨kv, lv, h1, h2, hh⟩ := id h
  exact rfind_any h2 hl k
end
end Go.Proofs.Ytehgfhcpjeepkaa
