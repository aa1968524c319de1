/- The range over object.Pool.Pages with a break: of an object that is there, or of none. Conditions: as in XObPg. -/
import Derived.Test.YtopfknikmhkaeaaObPgB
import Derived.Test.YtopfknikmhkaeaaObPages
namespace Go.Proofs.Ytopfknikmhkaeaa
open Go.RowKit
set_option linter.unusedSimpArgs false
set_option linter.unusedVariables false
attribute [local go_sem] Oper.semAt_some
set_option maxRecDepth 100000 in
set_option maxHeartbeats 4000000 in
theorem page0_in {b m : Nat} {most : Int} {L : List (Int × Ent)} (nf lp bx bi bl bh : Nat) (id : Int) (J Jx : List (Int × Pg) → World → Prop)
    (W : World) (h : OT W b m most L) (he : alGet L id = none)
    (ox : ob W bx = some (.cells #[.pointer (some ⟨b, 0, none⟩)] 24 (0, 0))) (oi : ob W bi = some (.cells #[.int .i64 id] 3 (0, 0))) (h0 : J [] W) :
    CallsIn Fence.wide nf Try.prog 36 #[.func (.yield lp) #[] #[], .pointer (some ⟨bx, 0, none⟩), .pointer (some ⟨bi, 0, none⟩), .pointer (some ⟨bl, 0, none⟩), .pointer (some ⟨bh, 0, none⟩)] W fun e W' => (∃ v, e = .returned v) ∧
      ((∃ ys : List (Int × Pg), ys = [] ∧ J ys W') ∨ (∃ pre : List (Int × Pg), pre <+: [] ∧ Jx pre W')) := by
  have cx := cell_of_ob ox 0
  have ci := cell_of_ob oi 0
  have hof := of_any h id none (by rw [he]; rfl)
  refine callsIn_of_wp Try.func36 rfl trivial ?_ rfl
  simp only [Try.ntmps36, List.size_toArray, List.length_cons, List.length_nil, Nat.reduceAdd, Nat.reduceSub, Array.replicate_succ, Array.replicate_zero, List.push_toArray, List.append_toArray, List.nil_append, List.cons_append]
  refine wpIn_wide.2 ?_
  go_wp2_with fail
  refine hof.mono ?_
  rintro e v ⟨rfl, hv⟩
  rw [← hv]
  clear hv v
  simp only [ptrV, Option.map_none]
  go_wp2
  refine bodyPost_ret (results_none rfl _ _ _) rfl ?_
  exact ⟨⟨_, rfl⟩, .inl ⟨_, rfl, h0⟩⟩
/-- The pages of an object that is there, or none. -/
def pgsOf (L : List (Int × Ent)) (id lo hi : Int) : List (Int × Pg) := ((alGet L id).map fun e => pagesR e.2.2.2.2 lo hi).getD []
theorem pagesA_stops {b m : Nat} {most : Int} {L : List (Int × Ent)} (D : Nat → Prop) (nf bx bi bl bh : Nat) (id lo hi : Int)
    (w : World) (h : OT w b m most L) (hq : ∀ e, alGet L id = some e → (e.2.2.2.2.map (·.1)).Nodup ∧ ObKeys e.2.2.2.2)
    (ox : ob w bx = some (.cells #[.pointer (some ⟨b, 0, none⟩)] 24 (0, 0))) (oi : ob w bi = some (.cells #[.int .i64 id] 3 (0, 0)))
    (ol : ob w bl = some (.cells #[.int .i64 lo] 3 (0, 0))) (oh : ob w bh = some (.cells #[.int .i64 hi] 3 (0, 0)))
    (hB : ∀ k, objS b m L k ∨ k = bl ∨ k = bh → ¬ D k) (hD : ∀ k, D k → k < w.heap.size) :
    SeqStopsK Fence.wide nf Try.prog 36 #[.pointer (some ⟨bx, 0, none⟩), .pointer (some ⟨bi, 0, none⟩), .pointer (some ⟨bl, 0, none⟩), .pointer (some ⟨bh, 0, none⟩)] (fun x : Int × Pg => #[.int .i64 x.1, pgV x.2]) (K3 w.heap.size D) (fun ys => ys = pgsOf L id lo hi) (fun pre => pre <+: pgsOf L id lo hi) (pgsOf L id lo hi).length w := by
  rcases he : alGet L id with _ | ⟨qb, pm, f, n0, q⟩
  · have hp : pgsOf L id lo hi = [] := by unfold pgsOf; rw [he]; rfl
    rw [hp]
    intro l J Jx W hW hJ hJx hY h0
    have hf : Fr (fun _ => False) w W := Fr.of_below hW
    exact page0_in nf l bx bi bl bh id J Jx W (h.keep hf) he (hf.keep (fun h => h) ox) (hf.keep (fun h => h) oi) h0
  · have hp : pgsOf L id lo hi = pagesR q lo hi := by unfold pgsOf; rw [he]; rfl
    rw [hp]
    obtain ⟨h1, h2⟩ := hq _ he
    refine page1_stops D nf bx bi bl bh id lo hi w h he h1 h2 ox oi ol oh (fun k hk => hB k ?_) hD
    rcases hk with rfl | rfl | rfl | rfl
    · exact .inl (.inr (.inr ⟨id, _, he, .inl rfl⟩))
    · exact .inl (.inr (.inr ⟨id, _, he, .inr rfl⟩))
    · exact .inr (.inl rfl)
    · exact .inr (.inr rfl)
/-- What a body that leaves the range leaves behind. -/
def IxB (L : List (Int × Pg)) (I : List (Int × Pg) → World → Prop) (brk : Nat) (stop : Int) (c : Code) (pre' : List (Int × Pg)) (W : World) : Prop :=
  ¬ pre' <+: L ∨ (c = .exit brk ∧ ∃ pre x, pre' = pre ++ [x] ∧ I pre W ∧ (pre.length : Int) = stop)
/-- The range over Pages, whose page is boxed in each round, and which may be broken off. -/
theorem wpIn_range_pgB {g : Operand} {p1 p2 s1 s2 brk : Nat} {stop : Int} {assign body : Code} {Q : Exit → Act → World → Prop} {a : Act} {w : World} {lb : Array Value} {L : List (Int × Pg)} {D : Nat → Prop}
    (hg : a.eval g = .func (.func 36) #[] lb)
    (hseq : SeqStopsK Fence.wide 8 Try.prog 36 lb (fun x : Int × Pg => #[.int .i64 x.1, pgV x.2]) (K3 w.heap.size D) (fun ys => ys = L) (fun pre => pre <+: L) L.length w)
    (I : List (Int × Pg) → World → Prop) (hI : OwnFrom w.heap.size I) (hIs : ∀ pre W, I pre W → w.heap.size ≤ W.heap.size) (h0 : I [] w)
    (hassign : ∀ (l : Nat) (x : Int × Pg) (W : World) (K : Act → World → Prop), K { tmps := (((a.tmps.setIfInBounds p1 (.int .i64 x.1)).setIfInBounds p2 (pgV x.2)).setIfInBounds s1 (.int .i64 x.1)).setIfInBounds s2 (.pointer (some ⟨W.heap.size, 0, none⟩)), defers := [] } (W.alloc (.cells (pgC x.2) 34)) →
      assign.wpIn (Fence.wide.inRound l) 7 Try.prog (Exit.then K (fun _ _ _ => False)) { tmps := (a.tmps.setIfInBounds p1 (.int .i64 x.1)).setIfInBounds p2 (pgV x.2), defers := [] } W)
    (hbody : ∀ (l : Nat) (pre : List (Int × Pg)) (x : Int × Pg) (pb : Nat) (W : World), I pre W → w.heap.size ≤ pb → ob W pb = some (.cells (pgC x.2) 34 (0, 0)) → pre.length < L.length →
      body.wpIn (Fence.wide.inRound l) 7 Try.prog (ownPostG w.heap.size (K3 w.heap.size D) I (IxB L I brk stop) (pre ++ [x]) W) { tmps := (((a.tmps.setIfInBounds p1 (.int .i64 x.1)).setIfInBounds p2 (pgV x.2)).setIfInBounds s1 (.int .i64 x.1)).setIfInBounds s2 (.pointer (some ⟨pb, 0, none⟩)), defers := [] } W)
    (hdone : ∀ (M : Nat) (W : World) (pre : List (Int × Pg)), w.heap.size ≤ M → I pre W → (pre = L ∨ ((pre.length : Int) = stop ∧ pre.length < L.length)) → ob W M = some (.deferred (some [])) →
      Q .normal { a with defers := { target := .collected M, args := #[] } :: a.defers } W ∧ Q (.exit brk) { a with defers := { target := .collected M, args := #[] } :: a.defers } W) :
    (Code.rangeFunc g #[p1, p2] assign body).wpIn Fence.wide 9 Try.prog Q a w := by
  refine wpIn_rangeFunc_ownH rfl (by decide) (gf := 36) (lb := lb) hg trivial (Go.Proofs.enters_of Try.func36 (by kernel_rfl) rfl) hseq K3.trans
    (fun W l o o' hb hl hc _ => K3.put hb hl hc) (Below.refl _ _) (fun _ => rfl) I (IxB L I brk stop) hI ?_ h0
    (fun x a' W => ∃ pb, w.heap.size ≤ pb ∧ ob W pb = some (.cells (pgC x.2) 34 (0, 0)) ∧ a' = { tmps := (((a.tmps.setIfInBounds p1 (.int .i64 x.1)).setIfInBounds p2 (pgV x.2)).setIfInBounds s1 (.int .i64 x.1)).setIfInBounds s2 (.pointer (some ⟨pb, 0, none⟩)), defers := [] }) ?_ ?_ ?_ ?_ ?_
  · intro c pre' A B row hs hgr hrow
    rcases hs with hs | ⟨h1, pre, x, h2, h3, h4⟩
    · exact .inl hs
    · exact .inr ⟨h1, pre, x, h2, hI pre A B row h3 hgr hrow, h4⟩
  · rintro x a' u A B row ⟨pb, h1, h2, h3⟩ hgr hrow
    refine ⟨pb, h1, (hgr.block pb (ob_lt h2) (fun e => ?_)).trans h2, h3⟩
    obtain ⟨_, o, ho, hc⟩ := hrow pb e.symm
    have h4 : A.heap[pb]? = _ := h2
    rw [ho] at h4; cases h4; cases hc
  · intro l pre x W K hi hK
    have e : ∀ (T : Array Value) (u v : Value), (#[p1, p2].zip #[u, v]).foldl (fun t (p, v) => t.setIfInBounds p v) T = (T.setIfInBounds p1 u).setIfInBounds p2 v := fun T u v => by simp [← Array.foldl_toList]
    rw [e]
    refine hassign l x W K (hK _ _ (KeepsFrom.of_grownBy (World.grownBy_alloc W _ none) (fun j e => by cases e)) (K3.of_fr (S := fun _ => False) ((Fr.refl _ _).alloc _) (fun _ h => h.elim)) (hI.alloc _ hi) ⟨W.heap.size, hIs _ _ hi, ob_newAt _ _ _ rfl, rfl⟩)
  · rintro l pre x a' W _ _ hi ⟨pb, h1, h2, rfl⟩ hlt
    exact hbody l pre x pb W hi h1 h2 hlt
  · rintro M ys W hM rfl hi hm
    exact (hdone M W _ hM hi (.inl rfl) hm).1
  · rintro M c pre' W hM hp hn hm
    rcases hn with hn | ⟨rfl, pre, x, rfl, h3, h4⟩
    · exact absurd hp hn
    · have hl := hp.length_le
      simp only [List.length_append, List.length_cons, List.length_nil] at hl
      exact wpIn_exit (hdone M W pre hM h3 (.inr ⟨h4, by omega⟩) hm).2
end Go.Proofs.Ytopfknikmhkaeaa
