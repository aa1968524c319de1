/- pantrylaw02.list: those of a row, as many as are wanted. No conditions. -/
import Derived.Test.YtfcpodlbombimaaRgInts
import Derived.Shelf.Abstract
namespace Go.Proofs.Ytfcpodlbombimaa
open Go.RowKit
set_option linter.unusedSimpArgs false
set_option linter.unusedVariables false
attribute [local go_sem] Oper.semAt_some
theorem ob_kept {W W' : World} {row : Option Nat} {k : Nat} {c : Array Value} {t : TypeId} {f : Nat × Nat} (h : ob W k = some (.cells c t f)) (hg : W.grownBy W' row) (hrow : ∀ r, row = some r → ∃ o : Obj, W.heap[r]? = some o ∧ o.isCells = false) : ob W' k = some (.cells c t f) :=
  (grownBy_keeps_cells hg hrow h rfl).trans h
theorem Sl.kept {W W' : World} {row : Option Nat} {e : TypeId} {sz : Nat} {v : Value} {cs : List Value} (h : Sl W e sz v cs) (hg : W.grownBy W' row) (hrow : ∀ r, row = some r → ∃ o : Obj, W.heap[r]? = some o ∧ o.isCells = false) : Sl W' e sz v cs := by
  rcases h with h | ⟨g, off, n, cap, cur, rfl, ho, h2⟩
  · exact .inl h
  · exact .inr ⟨g, off, n, cap, cur, rfl, ob_kept ho hg hrow, h2⟩
section
variable {F : Fence} {nf : Nat} {ops : Array Oper} {Q : Exit → Act → World → Prop} {a : Act} {rest : List Oper} {o : Oper} {w : World} {v : Value} {l : List Int}
theorem wpListIn_appI (hg : o.guard = none) (s x : Operand) (ho : o.op = .call { callee := .builtin .append, args := #[s, x], argTypes := #[22, 22] })
    (hs : a.eval s = v) (h : SKI w v l) (g : Nat) (n : Int) (hx : a.eval x = .slice (some ⟨g, 0, none⟩) 1 1) {f : Nat × Nat} (hgo : ob w g = some (.cells #[.int .i64 n] 3 f)) (hl : l.length ≤ 1000000)
    (hn : ∀ A2 N2 C2 w', SKI w' (.slice A2 N2 C2) (l ++ [n]) → Fr (fun k => v.ownBlock = some k) w w' → (∀ k, (Value.slice A2 N2 C2).ownBlock = some k → v.ownBlock = some k ∨ w.heap.size ≤ k) → wpListIn F nf Try.prog ops Q rest (a.put o.dst (.slice A2 N2 C2)) w') :
    wpListIn F nf Try.prog ops Q (o :: rest) a w := by
  refine wpListIn_plain hg fun K hK' => ?_
  obtain ⟨i0, hi, hz, hsz, hby⟩ := infoofI zeroI
  have hlen := SKI.elen h
  obtain ⟨v2, w2, hrun, hs2, hf2, ho2, hl2⟩ := run_append_sl (P := Try.prog) (ty := o.type) Try.underlying22 hi hz hsz hby rfl (by decide) h ⟨g, 0, none⟩ 1 1 [.int .i64 n] rfl (news_of_ob hgo) (by simp [Value.oneCell']) (by decide) (by simp only [maxLen]; omega) (by omega)
  unfold Oper.wpIn
  refine ⟨by simp [Oper.about, ho, resolve, Target.leads, Sem.run_pure], ?_⟩
  rw [Oper.semAt_plain F _ _ (by rw [ho]; intro c hc'; cases hc')]
  simp [execOp, ho, resolve, invoke, builtin, hs, hx, hrun, Result.andThen]
  obtain ⟨A2, N2, C2, rfl⟩ := hs2.shape
  refine hK' _ _ (hn A2 N2 C2 w2 ?_ hf2 (fun k hk => ?_))
  · have e : kvsI l ++ [.int .i64 n] = kvsI (l ++ [n]) := by simp [kvsI, kvI]
    rw [e] at hs2
    exact hs2
  · rcases ho2 with h4 | ⟨q, h4, h5⟩
    · left; rw [← h4]; exact hk
    · rw [h4] at hk; cases hk; right; exact h5
end
theorem eql_func_nil {P : Program} (w : World) (t : TypeId) {ps rs : Array TypeId} {vr : Bool} (f : Fn) (x y : Array Value) (h : P.underlying t = some (.func ps rs vr)) : (binOp .eql t (.func f x y) .nilFunc).run P w = .ok (.bool false) w := by
  have h1 : (Op.equal t (.func f x y) .nilFunc).run P w = .ok false w := by
    unfold Op.equal Op.maxDepth Op.equalIn
    rw [Sem.run_bind, run_und h]
    rfl
  change Sem.run P (Op.equal t (.func f x y) .nilFunc >>= _) w = _
  rw [Sem.run_bind, h1]
  rfl
theorem KeepsOthers.of_fr {S : Nat → Prop} {W W' : World} (hf : Fr S W W') (hS : ∀ k, S k → k < W.heap.size → ∃ c t f, ob W k = some (.cells c t f)) : KeepsOthers W W' := by
  refine ⟨hf.size, fun k o ho hc => ?_⟩
  have hk : k < W.heap.size := (Array.getElem?_eq_some_iff.1 ho).1
  refine (hf.block k hk (fun hs => ?_)).trans ho
  obtain ⟨c, t, f, h⟩ := hS k hs hk
  have h2 : W.heap[k]? = some (.cells c t f) := h
  rw [ho] at h2; cases h2; cases hc
theorem Sl.isCells {w : World} {e : TypeId} {sz : Nat} {v : Value} {cs : List Value} (h : Sl w e sz v cs) {k : Nat} (hk : v.ownBlock = some k) : ∃ c t f, ob w k = some (.cells c t f) := by
  rcases h with ⟨rfl, _⟩ | ⟨g, off, n, cap, row, rfl, ho, _⟩
  · cases hk
  · cases hk; exact ⟨_, _, _, ho⟩
/-- The blocks of a slice in a variable at b. -/
def BoxD (b : Nat) (W : World) (k : Nat) : Prop := k = b ∨ ∃ v, W.cell? ⟨b, 0, none⟩ = some v ∧ v.ownBlock = some k
/-- As many as are wanted. -/
def mostOf (l : List Int) (most : Int) : List Int := if 0 ≤ most ∧ most < l.length then l.take most.toNat else l
set_option maxRecDepth 100000 in
set_option maxHeartbeats 4000000 in
theorem list_any {w : World} {S : Nat → Prop} {b r m : Nat} {L : List (List Int)} (hx : RXI w S b r m L) (n most : Int) :
    Calls Try.prog 13 #[.pointer (some ⟨b, 0, none⟩), .int .i64 n, .int .i64 most] w fun e W' => ∃ v, e = .returned v ∧ SKI W' v (mostOf (rowAtI L n) most) ∧ (∀ k, v.ownBlock = some k → w.heap.size ≤ k) ∧ Fr (fun _ => False) w W' := by
  obtain ⟨vs, Wm, h, hgd, hS⟩ := hx
  have hg := hgd.rowsI
  have hrow5 : (rowAtI L n).length ≤ 5000 := by
    unfold rowAtI
    split
    · cases hl : L[n.toNat]? with
      | none => simp
      | some l => exact hg l (List.mem_of_getElem? hl)
    · simp
  refine (callsIn_wide (n := 9)).1 ?_
  refine callsIn_of_wp_marks Try.func13 rfl trivial ?_ rfl
  simp only [Try.ntmps13, List.size_toArray, List.length_cons, List.length_nil, Nat.reduceAdd, Nat.reduceSub, Array.replicate_succ, Array.replicate_zero, List.push_toArray, List.append_toArray, List.nil_append, List.cons_append]
  obtain ⟨W2, hW2⟩ : ∃ W2, (((w.alloc (.cells #[.int .i64 most] 3)).alloc (.cells #[.pointer (some ⟨b, 0, none⟩)] 24)).alloc (.cells #[.int .i64 n] 3)).alloc (.cells #[.slice none 0 0] 22) = W2 := ⟨_, rfl⟩
  have hf0 : Fr (fun _ => False) w W2 := by rw [← hW2]; exact ((((Fr.refl _ w).alloc _).alloc _).alloc _).alloc _
  have o0 : ob W2 w.heap.size = some (.cells #[.int .i64 most] 3 (0, 0)) := by rw [← hW2, ob_alloc _ _ _ (by simp <;> omega), ob_alloc _ _ _ (by simp <;> omega), ob_alloc _ _ _ (by simp <;> omega), ob_newAt _ _ _ (by simp <;> omega)]
  have o1 : ob W2 (w.heap.size + 1) = some (.cells #[.pointer (some ⟨b, 0, none⟩)] 24 (0, 0)) := by rw [← hW2, ob_alloc _ _ _ (by simp <;> omega), ob_alloc _ _ _ (by simp <;> omega), ob_newAt _ _ _ (by simp <;> omega)]
  have o2 : ob W2 (w.heap.size + 1 + 1) = some (.cells #[.int .i64 n] 3 (0, 0)) := by rw [← hW2, ob_alloc _ _ _ (by simp), ob_newAt _ _ _ (by simp)]
  have o3 : ob W2 (w.heap.size + 1 + 1 + 1) = some (.cells #[.slice none 0 0] 22 (0, 0)) := by rw [← hW2, ob_newAt _ _ _ (by simp)]
  have hs2 : W2.heap.size = w.heap.size + 4 := by rw [← hW2]; simp
  have heq := fun w f x y => eql_func_nil (P := Try.prog) w 32 f x y Try.underlying32
  gi_wp2_with (refine ⟨trivial, ?_⟩; gi_at_call 16; refine (callsIn_wide.2 (allI_any _ _ _)).mono ?_; rintro e w' ⟨rfl, rfl⟩)
  clear hW2 heq
  have hB2 : Below w.heap.size w W2 := hf0.below (Nat.le_refl _) (fun _ h => h.elim)
  obtain ⟨lb, hlb⟩ : ∃ lb, w.heap.size + 1 + 1 + 1 = lb := ⟨_, rfl⟩
  rw [hlb] at o3 ⊢
  have hD : ∀ (W1 : World) (k : Nat), Fr (fun _ => False) W2 W1 → W2.heap.size ≤ k → ¬ BoxD lb W1 k := by
    rintro W1 k h1 hk (rfl | ⟨v, hv, hk2⟩)
    · omega
    · rw [cell_of_ob (h1.keep (fun h => h) o3)] at hv
      cases hv; cases hk2
  have hDput : ∀ (W : World) (l : Nat) (o o' : Obj), W2.heap.size ≤ l → W.heap[l]? = some o → o.isCells = false → o.isWalk = false → K2 (BoxD lb) W (W.putObj l o') := fun W l o o' hl ho hc _ => K2.put ho hc (fun k hk => by
    rcases hk with rfl | ⟨v, hv, hk2⟩
    · exact .inl rfl
    · refine .inr ⟨v, ?_, hk2⟩
      rw [← hv]
      exact (World.cell?_of_block (w := W) ((grownBy_putObj' W l o').block lb (by have := (Array.getElem?_eq_some_iff.1 ho).1; omega) (fun e => by cases e; omega))).symm)
  refine wpIn_rangeFunc_ownF rfl (by decide) (gf := 41) (lb := #[.pointer (some ⟨w.heap.size + 1, 0, none⟩), .pointer (some ⟨w.heap.size + 1 + 1, 0, none⟩)]) rfl trivial (Go.Proofs.enters_of Try.func41 (by kernel_rfl) rfl)
    (all1I_stops (BoxD lb) 8 (w.heap.size + 1) (w.heap.size + 1 + 1) n W2 (h.keep hf0) hg o1 o2 hD) K2.trans hDput (Below.refl _ _) (fun _ => rfl)
    (fun pre W => ((∃ v, ob W lb = some (.cells #[v] 22 (0, 0)) ∧ SKI W v pre ∧ (∀ k, v.ownBlock = some k → W2.heap.size ≤ k)) ∧ ob W w.heap.size = some (.cells #[.int .i64 most] 3 (0, 0)) ∧ ∀ q : Nat, q < pre.length → (q : Int) ≠ most) ∧ Below w.heap.size w W)
    (fun c pre W => (c = .exit 0 ∧ ∃ v p x, pre = p ++ [x] ∧ (p.length : Int) = most ∧ ob W lb = some (.cells #[v] 22 (0, 0)) ∧ SKI W v p ∧ (∀ k, v.ownBlock = some k → W2.heap.size ≤ k)) ∧ Below w.heap.size w W)
    (OwnFrom.and (Own.from (fun s A B row hs hg hr => ⟨hs.1.imp (fun v h => ⟨ob_kept h.1 hg hr, h.2.1.kept hg hr, h.2.2⟩), ob_kept hs.2.1 hg hr, hs.2.2⟩) _) (ownFrom_below (Nat.le_refl _) (by omega)))
    (fun c => OwnFrom.and (Own.from (fun s A B row hs hg hr => ⟨hs.1, by obtain ⟨v, p, x, h1, h2, h3, h4, h5⟩ := hs.2; exact ⟨v, p, x, h1, h2, ob_kept h3 hg hr, h4.kept hg hr, h5⟩⟩) _) (ownFrom_below (Nat.le_refl _) (by omega)))
    ⟨⟨⟨_, o3, Sl.nil _ _ _, fun k hk => (by cases hk)⟩, o0, fun q hq => (by simp at hq)⟩, hB2⟩
    (fun x => { tmps := #[.pointer (some ⟨b, 0, none⟩), .int .i64 n, .int .i64 most, undef, undef, .pointer (some ⟨w.heap.size, 0, none⟩), .slice none 0 0, .func (.func 41) #[] #[.pointer (some ⟨w.heap.size + 1, 0, none⟩), .pointer (some ⟨w.heap.size + 1 + 1, 0, none⟩)], .pointer (some ⟨lb, 0, none⟩), .int .i64 x, .pointer (some ⟨b, 0, none⟩), .int .i64 n, .func (.func 41) #[] #[.pointer (some ⟨w.heap.size + 1, 0, none⟩), .pointer (some ⟨w.heap.size + 1 + 1, 0, none⟩)], .func (.func 41) #[] #[.pointer (some ⟨w.heap.size + 1, 0, none⟩), .pointer (some ⟨w.heap.size + 1 + 1, 0, none⟩)], .bool false, undef, .func (.func 41) #[] #[.pointer (some ⟨w.heap.size + 1, 0, none⟩), .pointer (some ⟨w.heap.size + 1 + 1, 0, none⟩)], .int .i64 x, undef, undef, undef, undef, undef, undef, undef, undef, undef], defers := [] }) ?assign ?body ?done ?stop
  case assign =>
    intro l x W K hK
    gi_wp2
    exact hK
  case body =>
    rintro l pre x W ⟨⟨⟨v, hv, hs, hown⟩, om, hq⟩, hB⟩ hlt
    have c0 := cell_of_ob hv 0
    have c1 := cell_of_ob om 0
    have f0 := frozen_of_ob hv 0
    have hlen := SKI.elen hs
    obtain ⟨A, N, C, rfl⟩ := hs.shape
    simp only [sliceLen] at hlen
    have HQ := Lib.hid hq
    have HLEN := Lib.hid hlen
    have hN5 : N ≤ 5000 := by omega
    have hpl : pre.length ≤ 1000000 := by omega
    clear hq hlen
    by_cases hm : (N : Int) = most
    · have hb : ((N : Int) == most) = true := by simp [hm]
      gi_wp2
      exact ⟨KeepsOthers.refl _, ⟨rfl, _, pre, x, rfl, by rw [← HLEN.out]; exact hm, hv, hs, hown⟩, hB⟩
    · have hb : ((N : Int) == most) = false := by simp [hm]
      gi_wp2_with (gi_at_builtin; refine wpListIn_appI (v := .slice A N C) rfl _ _ rfl rfl (Sl.alloc hs _) W.heap.size x rfl (ob_newAt _ _ _ rfl) hpl ?_; intro A2 N2 C2 w5 hs5 hf5 ho5; have hf6 : Fr (fun k => (Value.slice A N C).ownBlock = some k) W w5 := ((Fr.refl _ W).alloc _).step hf5 (fun k hk => .inl hk); have e5 := hf6.keep (fun e => by have := hown lb e; omega) hv; have g0 := cell_of_ob e5 0; have g1 := frozen_of_ob e5 0)
      have hW3 := hB.size
      have hlbW : lb < W.heap.size := ob_lt hv
      have hown2 : ∀ k, (Value.slice A2 N2 C2).ownBlock = some k → W2.heap.size ≤ k ∧ k ≠ lb := fun k hk => by
        rcases ho5 k hk with h | h
        · have := hown k h; exact ⟨this, by omega⟩
        · simp at h
          have h3 : lb < k := by omega
          refine ⟨by omega, by omega⟩
      have e6 : ob (w5.setCell ⟨lb, 0, none⟩ (.slice A2 N2 C2)) lb = some (.cells #[.slice A2 N2 C2] 22 (0, 0)) := by rw [ob_setCell_same e5]; rfl
      have hs6 : SKI (w5.setCell ⟨lb, 0, none⟩ (.slice A2 N2 C2)) (.slice A2 N2 C2) (pre ++ [x]) := Sl.of hs5 (fun k hk => ob_setCell _ _ _ _ (hown2 k hk).2)
      have hf7 : Fr (fun k => k = lb ∨ (Value.slice A N C).ownBlock = some k) W (w5.setCell ⟨lb, 0, none⟩ (.slice A2 N2 C2)) := (hf6.mono' (fun k h => .inr h)).setCell _ _ (.inl (.inl rfl))
      refine ⟨KeepsOthers.of_fr hf7 (fun k hk _ => hk.elim (fun e => ⟨_, _, _, e ▸ hv⟩) (fun h => Sl.isCells hs h)), K2.of_fr hf7 (fun k hk _ => hk.elim .inl (fun h => .inr ⟨_, c0, h⟩)) (fun k hk => ?_), ⟨⟨_, e6, hs6, fun k hk => (hown2 k hk).1⟩, hf7.keep (fun e => e.elim (fun e => by omega) (fun e => by have := hown _ e; omega)) om, fun q hq => ?_⟩, hB.trans (hf7.below hW3 (fun k hk => hk.elim (fun e => by omega) (fun h => by have := hown k h; omega)))⟩
      · rcases hk with rfl | ⟨u, hu, hk⟩
        · exact .inl (.inl rfl)
        · rw [cell_of_ob e6] at hu
          cases hu
          rcases ho5 k hk with h | h
          · exact .inl (.inr ⟨_, c0, h⟩)
          · simp at h; right; omega
      · rw [List.length_append, List.length_singleton] at hq
        by_cases h2 : q < pre.length
        · exact HQ.out q h2
        · have : q = N := by rw [HLEN.out]; omega
          rw [this]; exact hm
  case done =>
    rintro D ys W hD rfl ⟨⟨⟨v, hv, hs, hown⟩, om, hq⟩, hB⟩ hK
    have c0 := cell_of_ob hv 0
    have hmost : mostOf (rowAtI L n) most = rowAtI L n := by
      unfold mostOf
      rw [if_neg]
      rintro ⟨h1, h2⟩
      exact hq most.toNat (by omega) (by omega)
    gi_wp2
    refine ⟨by simp, .inl ⟨_, _, rfl, run_takeDeferred hK, ?_⟩⟩
    refine ⟨_, results_tmp rfl _ _ _, ⟨v, rfl, ?_, fun k hk => by have := hown k hk; omega, below_fr (hB.trans (belowK_b (w := w) (Nat.le_refl _) W D _ _ (by omega) hK rfl rfl)) rfl⟩⟩
    rw [hmost]
    exact Sl.kept hs (grownBy_putObj' _ D (.deferred none)) (fun r e => by cases e; exact ⟨_, hK, rfl⟩)
  case stop =>
    rintro D c pre W hD hpre ⟨⟨rfl, v, p, x, rfl, hm, hv, hs, hown⟩, hB⟩ hK
    have c0 := cell_of_ob hv 0
    have hmost : mostOf (rowAtI L n) most = p := by
      obtain ⟨t, ht⟩ := hpre
      unfold mostOf
      rw [← ht, if_pos ⟨by omega, by simp; omega⟩, ← hm]
      simp
    gi_wp2
    refine ⟨by simp, .inl ⟨_, _, rfl, run_takeDeferred hK, ?_⟩⟩
    refine ⟨_, results_tmp rfl _ _ _, ⟨v, rfl, ?_, fun k hk => by have := hown k hk; omega, below_fr (hB.trans (belowK_b (w := w) (Nat.le_refl _) W D _ _ (by omega) hK rfl rfl)) rfl⟩⟩
    rw [hmost]
    exact Sl.kept hs (grownBy_putObj' _ D (.deferred none)) (fun r e => by cases e; exact ⟨_, hK, rfl⟩)
end Go.Proofs.Ytfcpodlbombimaa
