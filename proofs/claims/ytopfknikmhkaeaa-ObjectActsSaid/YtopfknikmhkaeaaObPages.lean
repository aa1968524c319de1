/- ObjectPages returns true: the walk (under way). No conditions. -/
import Derived.Test.YtopfknikmhkaeaaObPagesP
import Derived.Test.YtopfknikmhkaeaaObPgB
import Derived.Test.YtopfknikmhkaeaaObWith
import Derived.Deep.CutBlock
import Derived.Test.YtopfknikmhkaeaaObLives
namespace Go.Proofs.Ytopfknikmhkaeaa
open Go.RowKit
set_option linter.unusedSimpArgs false
set_option linter.unusedVariables false
attribute [local go_sem] Oper.semAt_some
def onePg (q : List (Int × Pg)) : List (Int × Obt) := [(1, (0, 1, q))]
theorem put_one {k : Int} (h0 : 0 ≤ k) (h1 : k < 4096) (q : List (Int × Pg)) (x : Pg) : putR (onePg q) 1 k x = (0, onePg (alSet q k x)) := by
  unfold putR onePg
  simp only [alGet, if_true, alSet]
  rw [if_neg (by omega)]
def pgC (x : Pg) : Array Value := #[.int .i64 x.1, .int .i64 x.2.1, .bool x.2.2]
def lastOf (pre : List (Int × Pg)) : Int := match pre.getLast? with
  | none => -1
  | some y => y.1
theorem lastOf_snoc (pre : List (Int × Pg)) (x : Int × Pg) : lastOf (pre ++ [x]) = x.1 := by unfold lastOf; simp
theorem keepsFrom_set {B : Nat} {W W' : World} {b : Nat} {v : Value} (h : KeepsFrom B W W') (hb : b < B) : KeepsFrom B W (W'.setCell ⟨b, 0, none⟩ v) :=
  h.trans (KeepsFrom.of_grownBy (grownBy_setCell' W' b v) (fun j e => by cases e; exact hb))
theorem lastOf_lt {pre : List (Int × Pg)} {k : Int} (h : ∀ z ∈ pre, z.1 < k) (h0 : 0 ≤ k) : lastOf pre < k := by
  unfold lastOf
  split
  · omega
  · rename_i y hy
    exact h y (List.mem_of_getLast? hy)
theorem Held.beside {T : Thing} {W w w1 : World} {P D : Nat → Prop} (h : Held P W w T) (ht : Steady T) (hf : Fr D w w1) (hD : ∀ k, D k → P k ∧ W.heap.size ≤ k) : Held P W w1 T :=
  let ⟨S, a, b, c⟩ := h
  ⟨S, ht.fr a hf (fun k hk _ hd => (b k hk).2.1 (hD k hd).1), fun k hk => ⟨(b k hk).1, (b k hk).2.1, Nat.lt_of_lt_of_le (b k hk).2.2 hf.size⟩, c.step hf (fun k hk => .inr (hD k hk).2)⟩
theorem get_one (q : List (Int × Pg)) (k : Int) : getR' (onePg q) 1 k = alGet q k := by
  unfold getR' onePg
  simp [alGet]
/-- The range over Pages, whose page is boxed in each round. -/
theorem wpIn_range_pg {g : Operand} {p1 p2 s1 s2 : Nat} {assign body : Code} {Q : Exit → Act → World → Prop} {a : Act} {w : World} {lb : Array Value} {L : List (Int × Pg)} {D : Nat → Prop}
    (hg : a.eval g = .func (.func 36) #[] lb)
    (hseq : SeqStopsK Fence.wide 8 Try.prog 36 lb (fun x : Int × Pg => #[.int .i64 x.1, pgV x.2]) (K3 w.heap.size D) (fun ys => ys = L) (fun pre => pre <+: L) L.length w)
    (I : List (Int × Pg) → World → Prop) (hI : OwnFrom w.heap.size I) (hIs : ∀ pre W, I pre W → w.heap.size ≤ W.heap.size) (h0 : I [] w)
    (hassign : ∀ (l : Nat) (x : Int × Pg) (W : World) (K : Act → World → Prop), K { tmps := (((a.tmps.setIfInBounds p1 (.int .i64 x.1)).setIfInBounds p2 (pgV x.2)).setIfInBounds s1 (.int .i64 x.1)).setIfInBounds s2 (.pointer (some ⟨W.heap.size, 0, none⟩)), defers := [] } (W.alloc (.cells (pgC x.2) 34)) →
      assign.wpIn (Fence.wide.inRound l) 7 Try.prog (Exit.then K (fun _ _ _ => False)) { tmps := (a.tmps.setIfInBounds p1 (.int .i64 x.1)).setIfInBounds p2 (pgV x.2), defers := [] } W)
    (hbody : ∀ (l : Nat) (pre : List (Int × Pg)) (x : Int × Pg) (pb : Nat) (W : World), I pre W → w.heap.size ≤ pb → ob W pb = some (.cells (pgC x.2) 34 (0, 0)) → pre.length < L.length →
      body.wpIn (Fence.wide.inRound l) 7 Try.prog (ownPostG w.heap.size (K3 w.heap.size D) I (fun _ pre _ => ¬ pre <+: L) (pre ++ [x]) W) { tmps := (((a.tmps.setIfInBounds p1 (.int .i64 x.1)).setIfInBounds p2 (pgV x.2)).setIfInBounds s1 (.int .i64 x.1)).setIfInBounds s2 (.pointer (some ⟨pb, 0, none⟩)), defers := [] } W)
    (hdone : ∀ (M : Nat) (W : World), w.heap.size ≤ M → I L W → ob W M = some (.deferred (some [])) → Q .normal { a with defers := { target := .collected M, args := #[] } :: a.defers } W) :
    (Code.rangeFunc g #[p1, p2] assign body).wpIn Fence.wide 9 Try.prog Q a w := by
  refine wpIn_rangeFunc_ownH rfl (by decide) (gf := 36) (lb := lb) hg trivial (Go.Proofs.enters_of Try.func36 (by kernel_rfl) rfl) hseq K3.trans
    (fun W l o o' hb hl hc _ => K3.put hb hl hc) (Below.refl _ _) (fun _ => rfl) I (fun _ pre _ => ¬ pre <+: L) hI (fun _ => ownFrom_pure _ _) h0
    (fun x a' W => ∃ pb, w.heap.size ≤ pb ∧ ob W pb = some (.cells (pgC x.2) 34 (0, 0)) ∧ a' = { tmps := (((a.tmps.setIfInBounds p1 (.int .i64 x.1)).setIfInBounds p2 (pgV x.2)).setIfInBounds s1 (.int .i64 x.1)).setIfInBounds s2 (.pointer (some ⟨pb, 0, none⟩)), defers := [] }) ?_ ?_ ?_ ?_ ?_
  · rintro x a' u A B row ⟨pb, h1, h2, h3⟩ hgr hrow
    refine ⟨pb, h1, (hgr.block pb (ob_lt h2) (fun e => ?_)).trans h2, h3⟩
    obtain ⟨_, o, ho, hc⟩ := hrow pb e.symm
    have h4 : A.heap[pb]? = _ := h2
    rw [ho] at h4; cases h4; cases hc
  · intro l pre x W K hi hK
    have e : ∀ (T : Array Value) (u v : Value), (#[p1, p2].zip #[u, v]).foldl (fun t (p, v) => t.setIfInBounds p v) T = (T.setIfInBounds p1 u).setIfInBounds p2 v := fun T u v => by simp [← Array.foldl_toList]
    rw [e]
    refine hassign l x W K (hK _ _ (KeepsFrom.of_grownBy (World.grownBy_alloc W _ none) (fun j e => by cases e)) (K3.of_fr (S := fun _ => False) ((Fr.refl _ _).alloc _) (fun _ h => h.elim)) (hI.alloc _ hi) ⟨W.heap.size, hIs _ _ hi, ob_newAt _ _ _ rfl, rfl⟩)
  · rintro l pre x a' W _ _ hi ⟨pb, h1, h2, rfl⟩ hlt
    exact hbody l pre x pb W hi h1 h2 hlt
  · rintro M ys W hM rfl hi hm
    exact hdone M W hM hi hm
  · rintro M c pre W hM hp hn hm
    exact absurd hp hn
set_option maxRecDepth 100000 in
set_option maxHeartbeats 8000000 in
theorem pages_walk (W : World) (A : Option Addr) (N C : Nat) (xs : List Int) (lo hi : Int) (hx : Rd W 1 (.slice A N C) (xs.flatMap uint1)) (hN : N = xs.length) (hC : N ≤ C ∧ C ≤ maxLen) (hg : ∀ x ∈ xs, UintOK x) :
    Calls Try.prog 5 #[.slice A N C, .int .i64 lo, .int .i64 hi] W fun e w' => e = .returned (.bool true) ∧ Fr (fun _ => False) W w' := by
  have HN := Lib.hid hN
  have HG := Lib.hid hg
  have HX := Lib.hid hx
  obtain ⟨hC1, hC2⟩ := hC
  have hC3 : C ≤ 9223372036854775807 := by simp only [maxLen] at hC2; omega
  clear hN hg hx hC2
  refine (callsIn_wide (n := 9)).1 ?_
  refine callsIn_of_wp_marks Try.func5 rfl trivial ?_ rfl
  simp only [Try.ntmps5, List.size_toArray, List.length_cons, List.length_nil, Nat.reduceAdd, Nat.reduceSub, Array.replicate_succ, Array.replicate_zero, List.push_toArray, List.append_toArray, List.nil_append, List.cons_append]
  refine wpIn_wide.2 ?_
  have heq := fun w f x y => eql_func_nil (P := Try.prog) w 44 f x y Try.underlying44
  go_wp2_with fail
  obtain ⟨W0, hW⟩ : ∃ W0, W0 = (((W.alloc (.cells #[.slice A N C] 23)).alloc (.cells #[.int .i64 lo] 3)).alloc (.cells #[.int .i64 hi] 3)).alloc (.cells #[.bool false] 4) := ⟨_, rfl⟩
  rw [← hW]
  have hfr : Fr (fun _ => False) W W0 := by rw [hW]; exact ((((Fr.refl _ _).alloc _).alloc _).alloc _).alloc _
  have hsz : W0.heap.size = W.heap.size + 4 := by rw [hW]; simp
  have o0 : ob W0 W.heap.size = some (.cells #[.slice A N C] 23 (0, 0)) := by rw [hW, ob_alloc _ _ _ (by simp <;> omega), ob_alloc _ _ _ (by simp <;> omega), ob_alloc _ _ _ (by simp <;> omega), ob_newAt _ _ _ (by first | omega | (simp <;> omega))]
  have o1 : ob W0 (W.heap.size + 1) = some (.cells #[.int .i64 lo] 3 (0, 0)) := by rw [hW, ob_alloc _ _ _ (by simp <;> omega), ob_alloc _ _ _ (by simp <;> omega), ob_newAt _ _ _ (by first | omega | (simp <;> omega))]
  have o2 : ob W0 (W.heap.size + 1 + 1) = some (.cells #[.int .i64 hi] 3 (0, 0)) := by rw [hW, ob_alloc _ _ _ (by simp <;> omega), ob_newAt _ _ _ (by first | omega | (simp <;> omega))]
  have o3 : ob W0 (W.heap.size + 1 + 1 + 1) = some (.cells #[.bool false] 4 (0, 0)) := by rw [hW, ob_newAt _ _ _ (by first | omega | (simp <;> omega))]
  clear hW
  refine (newH (W := W) (w := W0) (P := fun k => W.heap.size ≤ k ∧ k < W.heap.size + 4) 1 (by omega) (by omega) hfr (fun k h => by omega)).mono ?_
  rintro e w1 ⟨b, rfl, hH1, hf1⟩
  have hPB : ∀ {v : World}, W0.heap.size ≤ v.heap.size → ∀ k, (W.heap.size ≤ k ∧ k < W.heap.size + 4) → k < v.heap.size := fun h k hk => by omega
  go_wp2_with fail
  refine (makeH hH1 Emp.steady (hPB hf1.size) ⟨by simp, by simp⟩ 0).mono ?_
  rintro e w2 ⟨id, er, l', rfl, hM, hH2, hk2⟩
  obtain ⟨rfl, rfl, rfl⟩ := make_nil hM (by omega) (by omega)
  have q0 := hk2 _ _ ⟨by omega, by omega⟩ (hf1.keep (fun h => h) o0)
  have q1 := hk2 _ _ ⟨by omega, by omega⟩ (hf1.keep (fun h => h) o1)
  have q2 := hk2 _ _ ⟨by omega, by omega⟩ (hf1.keep (fun h => h) o2)
  have q3 := hk2 _ _ ⟨by omega, by omega⟩ (hf1.keep (fun h => h) o3)
  change Held _ _ _ (Star (ObX b 1 (onePg [])) Emp) at hH2
  clear hM hk2 hH1 o0 o1 o2 o3 hf1
  obtain ⟨ba, hba⟩ : ∃ k, W.heap.size = k := ⟨_, rfl⟩
  have HBA := Lib.hid hba
  rw [hba] at q0 q1 q2 q3 hH2 hPB ⊢
  clear hba
  have c0 := cell_of_ob q0 0
  have s3 := ob_lt q3
  have s0 : ba < w2.heap.size := by omega
  by_cases hbig : 60 < N
  · go_wp2_with fail
    refine (lives_any w2).mono ?_
    rintro e w9 ⟨rfl, hf9⟩
    have o9 := hf9.keep (fun h => h) q3
    have c9 := cell_of_ob o9 0
    have z9 := frozen_of_ob o9 0
    have s9 := ob_lt o9
    have hfin : Fr (fun _ => False) W (w9.setCell ⟨ba + 1 + 1 + 1, 0, none⟩ (.bool true)) := (hH2.hf.step hf9 (fun _ h => h.elim)).setCell _ _ (.inr (by have := HBA.out; simp; omega))
    have hob : ob (w9.setCell ⟨ba + 1 + 1 + 1, 0, none⟩ (.bool true)) (ba + 1 + 1 + 1) = some (.cells #[.bool true] 4 (0, 0)) := ob_setCell_same o9 _
    clear heq hfr hH2 q0 q1 q2 q3 hf9 c0 o9
    go_wp2_with fail
    change LeavesInM _ _ _ _ _ _ (marks []) _ _
    refine leaves_marks (B := ba) [] _ (by simp) (fun D hD => by cases hD) (by simp; omega) (fun w' hw' hc => ?_)
    have hc2 := cell_of_ob (hc _ _ _ _ hob) 0
    refine ⟨.bool true, ?_, rfl, ⟨hw'.os.trans hfin.os, hw'.tape.trans hfin.tape, hw'.output.trans hfin.output, Nat.le_trans hfin.size hw'.size, fun k hk hn => (hw'.block k (by have := HBA.out; omega)).trans (hfin.block k hk hn)⟩⟩
    simp at hc2
    simp [results, Try.f5, go_sem, hc2]
  · have hN3 : N ≤ 60 := by omega
    clear hbig
    have HB0 := Lib.hid (show ∀ k, (ba ≤ k ∧ k < ba + 4) → k < w2.heap.size from fun k hk => by omega)
    have HR := Lib.hid (show ∀ v, Fr (fun _ => False) W v → Rd v 1 (.slice A N C) (xs.flatMap uint1) from fun v hf => HX.out.of hf (fun _ h => h.elim))
    have hQ0 : Hid (ob w2 ba = some (.cells #[.slice A N C] 23 (0, 0)) ∧ ob w2 (ba + 1) = some (.cells #[.int .i64 lo] 3 (0, 0)) ∧ ob w2 (ba + 1 + 1) = some (.cells #[.int .i64 hi] 3 (0, 0)) ∧ ob w2 (ba + 1 + 1 + 1) = some (.cells #[.bool false] 4 (0, 0))) := Lib.hid ⟨q0, q1, q2, q3⟩
    clear q1 q2 q3 heq hfr hsz hPB
    go_wp2_with fail
    clear c0 q0 s0 s3
    go_loopw [43] (fun si wr => ∃ (j : Nat) (q : List (Int × Pg)), j ≤ N ∧ si = .int .i64 j ∧ Held (fun k => ba ≤ k ∧ k < ba + 4) W wr (Star (ObX b 1 (onePg q)) Emp) ∧ Hid (PgOK xs j q) ∧ Hid (ob wr ba = some (.cells #[.slice A N C] 23 (0, 0)) ∧ ob wr (ba + 1) = some (.cells #[.int .i64 lo] 3 (0, 0)) ∧ ob wr (ba + 1 + 1) = some (.cells #[.int .i64 hi] 3 (0, 0)) ∧ ob wr (ba + 1 + 1 + 1) = some (.cells #[.bool false] 4 (0, 0)))) (fun si _ => N - (intOf si).toNat)
    case atStart => exact ⟨0, [], by omega, rfl, hH2, Lib.hid (PgOK.start xs), hQ0⟩
    case round =>
      obtain ⟨j, q, hj, rfl, hH, HP, HQ⟩ := hrel
      clear hH2 hQ0
      by_cases hlt : j < N
      · obtain ⟨x, hxj⟩ : ∃ x, xs[j]? = some x := ⟨_, List.getElem?_eq_getElem (by have := HN.out; omega)⟩
        obtain ⟨g, off, n', cap', heq, hgl, c0⟩ := Rd.uint (HR.out wr hH.hf) hxj
        cases heq
        obtain ⟨hx0, hx1⟩ := HG.out x (List.mem_of_getElem? hxj)
        obtain ⟨k, hk, hk0, hk1⟩ : ∃ k, x % 20 = k ∧ 0 ≤ k ∧ k < 20 := ⟨x % 20, rfl, by omega, by omega⟩
        have r0 := HQ.out.1
        have hpt := putH hH Emp.steady (fun k hk => HQ.out.2.2.2 |> fun h => by have := ob_lt h; omega) 1 k ((j : Int), 0, ((j : Int) % 2 == 0))
        rw [put_one hk0 (by omega)] at hpt
        have HXJ := Lib.hid hxj
        obtain ⟨bv, hbv⟩ : ∃ bv, ((j : Int) % 2 == 0) = bv := ⟨_, rfl⟩
        have HBV := Lib.hid hbv
        rw [hbv] at hpt
        clear hxj r0
        go_wp2_with fail
        try simp only [hk]
        refine hpt.mono ?_
        rintro e w5 ⟨rfl, hH5, hk5⟩
        have HQ5 : Hid (ob w5 ba = some (.cells #[.slice (some ⟨g, off, none⟩) N C] 23 (0, 0)) ∧ ob w5 (ba + 1) = some (.cells #[.int .i64 lo] 3 (0, 0)) ∧ ob w5 (ba + 1 + 1) = some (.cells #[.int .i64 hi] 3 (0, 0)) ∧ ob w5 (ba + 1 + 1 + 1) = some (.cells #[.bool false] 4 (0, 0))) := Lib.hid ⟨hk5 _ _ ⟨by omega, by omega⟩ HQ.out.1, hk5 _ _ ⟨by omega, by omega⟩ HQ.out.2.1, hk5 _ _ ⟨by omega, by omega⟩ HQ.out.2.2.1, hk5 _ _ ⟨by omega, by omega⟩ HQ.out.2.2.2⟩
        have HP5 := Lib.hid (show PgOK xs (j + 1) (alSet q k ((j : Int), 0, bv)) by rw [← hk]; exact HP.out.put HXJ.out _ rfl)
        clear hpt c0 hk hbv hH hk5
        go_wp2
        go_roundw
        case rel => exact ⟨j + 1, _, by omega, by go_num, hH5, HP5, HQ5⟩
        case measure => simp [intOf]; omega
      · obtain rfl : j = N := by omega
        have r1 : wr.cell? ⟨ba + 1, 0, none⟩ = some (.int .i64 lo) := cell_of_ob HQ.out.2.1 0
        have r2 : wr.cell? ⟨ba + 1 + 1, 0, none⟩ = some (.int .i64 hi) := cell_of_ob HQ.out.2.2.1 0
        have r3 := ob_lt HQ.out.2.2.2
        have g1 : ba + 1 < wr.heap.size := by omega
        have g2 : ba + 1 + 1 < wr.heap.size := by omega
        have g3 : ba + 1 < wr.heap.size + 1 := by omega
        have g4 : ba + 1 + 1 < wr.heap.size + 1 := by omega
        have heq := fun w f x y => eql_func_nil (P := Try.prog) w 44 f x y Try.underlying44
        go_wp2_with fail
        refine (pages_any (some ⟨b, 0, none⟩) 1 lo hi _).mono ?_
        rintro e t ⟨rfl, ht⟩
        obtain ⟨z, hz⟩ : ∃ z, wr.heap.size = z := ⟨_, rfl⟩
        have hft : Fr (fun _ => False) wr t := by rw [ht]; exact ((((((Fr.refl _ _).alloc _).alloc _).alloc _).alloc _).alloc _).alloc _
        have hzt : t.heap.size = z + 6 := by rw [ht]; simp; omega
        have ol0 : ob t z = some (.cells #[.int .i64 (-1)] 3 (0, 0)) := by rw [ht, ob_alloc _ _ _ (by simp <;> omega), ob_alloc _ _ _ (by simp <;> omega), ob_alloc _ _ _ (by simp <;> omega), ob_alloc _ _ _ (by simp <;> omega), ob_alloc _ _ _ (by simp <;> omega), ob_newAt _ _ _ (by first | omega | (simp <;> omega))]
        have on0 : ob t (z + 1) = some (.cells #[.int .i64 0] 3 (0, 0)) := by rw [ht, ob_alloc _ _ _ (by simp <;> omega), ob_alloc _ _ _ (by simp <;> omega), ob_alloc _ _ _ (by simp <;> omega), ob_alloc _ _ _ (by simp <;> omega), ob_newAt _ _ _ (by first | omega | (simp <;> omega))]
        have ox : ob t (z + 1 + 1) = some (.cells #[.pointer (some ⟨b, 0, none⟩)] 24 (0, 0)) := by rw [ht, ob_alloc _ _ _ (by simp <;> omega), ob_alloc _ _ _ (by simp <;> omega), ob_alloc _ _ _ (by simp <;> omega), ob_newAt _ _ _ (by first | omega | (simp <;> omega))]
        have oi : ob t (z + 1 + 1 + 1) = some (.cells #[.int .i64 1] 3 (0, 0)) := by rw [ht, ob_alloc _ _ _ (by simp <;> omega), ob_alloc _ _ _ (by simp <;> omega), ob_newAt _ _ _ (by first | omega | (simp <;> omega))]
        have olo : ob t (z + 1 + 1 + 2) = some (.cells #[.int .i64 lo] 3 (0, 0)) := by rw [ht, ob_alloc _ _ _ (by simp <;> omega), ob_newAt _ _ _ (by first | omega | (simp <;> omega))]
        have ohi : ob t (z + 1 + 1 + 3) = some (.cells #[.int .i64 hi] 3 (0, 0)) := by rw [ht, ob_newAt _ _ _ (by first | omega | (simp <;> omega))]
        have HQ2 := Lib.hid (show ob t ba = some (.cells #[.slice A j C] 23 (0, 0)) ∧ ob t (ba + 1) = some (.cells #[.int .i64 lo] 3 (0, 0)) ∧ ob t (ba + 1 + 1) = some (.cells #[.int .i64 hi] 3 (0, 0)) ∧ ob t (ba + 1 + 1 + 1) = some (.cells #[.bool false] 4 (0, 0)) from ⟨hft.keep (fun h => h) HQ.out.1, hft.keep (fun h => h) HQ.out.2.1, hft.keep (fun h => h) HQ.out.2.2.1, hft.keep (fun h => h) HQ.out.2.2.2⟩)
        have hH3 : Held (fun k => k = z ∨ k = z + 1) W t (Star (ObX b 1 (onePg q)) Emp) := (hH.safe (fun k hk _ => by omega)).keep ((ObX.steady _ _ _).star Emp.steady) hft
        clear ht r1 r2 HQ g1 g2 g3 g4
        simp only [World.size_alloc, hz]
        have hbaz : ba + 3 < z := by omega
        have HZ := Lib.hid hz
        clear hz r3
        go_wp2_with fail
        have hbz : ∀ k, k = ba ∨ k = ba + 1 ∨ k = ba + 1 + 1 ∨ k = ba + 1 + 1 + 1 → ¬ (k = z ∨ k = z + 1) := fun k hk => by omega
        obtain ⟨S0, m0, L0, hOT0, hout0, -⟩ := hH.left
        have hOT := hOT0.keep hft
        obtain ⟨qb, pm, f0, n0, he0⟩ : ∃ qb pm f0 n0, alGet L0 1 = some (qb, pm, f0, n0, q) := by
          have h1 := get_outL L0 1
          rw [hout0] at h1
          simp only [onePg, alGet, if_true] at h1
          rcases h2 : alGet L0 1 with _ | ⟨qb, pm, f0, n0, q0⟩
          · rw [h2] at h1; cases h1
          · rw [h2] at h1
            simp only [Option.map_some, Option.some.injEq, Prod.mk.injEq] at h1
            exact ⟨qb, pm, f0, n0, by rw [h1.2.2]⟩
        have hqz : qb < z ∧ pm < z := by
          have h1 := hOT0.one 1 _ he0
          exact ⟨by rw [← HZ.out]; exact ob_lt h1.1, by rw [← HZ.out]; exact h1.2.lt⟩
        have hst := page1_stops (fun k => k = z ∨ k = z + 1) 8 (z + 1 + 1) (z + 1 + 1 + 1) (z + 1 + 1 + 2) (z + 1 + 1 + 3) 1 lo hi t hOT he0 HP.out.nodup (HP.out.keys (by omega)) ox oi olo ohi (fun k hk => by omega) (fun k hk => by omega)
        have HL := Lib.hid (HP.out.count lo hi)
        have HFT := Lib.hid (show Fr (fun _ => False) W t from hH.hf.step hft (fun _ h => h.elim))
        have hWz : W.heap.size ≤ z := by have := HBA.out; omega
        clear hOT0 hOT he0 hout0 hH hft hqz ox oi olo ohi
        refine (wpIn_wide (n := 9)).1 ?_
        refine wpIn_range_pg (s1 := 15) (s2 := 16) (D := fun k => k = z ∨ k = z + 1) rfl hst
          (fun pre V => Fr (fun k => k = z ∨ k = z + 1) t V ∧ ob V z = some (.cells #[.int .i64 (lastOf pre)] 3 (0, 0)) ∧ ob V (z + 1) = some (.cells #[.int .i64 pre.length] 3 (0, 0))) ?own (fun _ _ h => h.1.size) ⟨Fr.refl _ _, ol0, on0⟩ ?assign ?body ?done
        case own =>
          rintro pre V V' row ⟨h1, h2, h3⟩ hgr hrow
          have hne : ∀ r, row = some r → ¬ (r = z ∨ r = z + 1) := fun r e hr => by
            have := (hrow r e).1; omega
          exact ⟨h1.step (Fr.of_grown hgr) (fun k hk => .inr (hrow k hk.symm).1), (hgr.block z (ob_lt h2) (fun e => hne _ e.symm (.inl rfl))).trans h2, (hgr.block (z + 1) (ob_lt h3) (fun e => hne _ e.symm (.inr rfl))).trans h3⟩
        case assign =>
          rintro l ⟨k, f, sl, d⟩ V K hK
          simp only [pgC, pgV] at hK ⊢
          gi_wp2
          exact hK
        case body =>
          rintro l pre ⟨k, f, sl, d⟩ pb V ⟨hfV, hl, hn⟩ hpb hop hlen
          simp only [pgC, pgV] at hop ⊢
          have HT := Lib.hid (show pre ++ [(k, f, sl, d)] <+: pagesR q lo hi → lastOf pre < k ∧ lo ≤ k ∧ k < hi ∧ ∃ i : Nat, i < j ∧ f = (i : Int) ∧ keyAt xs i = some k ∧ ∀ i' : Nat, i < i' → i' < j → keyAt xs i' ≠ some k from fun hp => by
            have h0 : PgOK xs xs.length q := by rw [← HN.out]; exact HP.out
            obtain ⟨h1, h2, h3, h4, i, h5, h6, h7, h8⟩ := h0.told hp
            exact ⟨lastOf_lt h1 h4, h2, h3, i, by rw [HN.out]; exact h5, h6, h7, fun i' a b => h8 i' a (by rw [← HN.out]; exact b)⟩)
          have HNEW := Lib.hid (lastOf_snoc pre (k, f, sl, d))
          have hcnt : pre.length < 20 := Nat.lt_of_lt_of_le hlen (by rw [HL.out]; exact cntTo_le _ _ _ _)
          obtain ⟨la, hla⟩ : ∃ la, lastOf pre = la := ⟨_, rfl⟩
          rw [hla] at hl HT
          obtain ⟨pn, hpn⟩ : ∃ pn, pre.length = pn := ⟨_, rfl⟩
          rw [hpn] at hn hcnt
          have HPN := Lib.hid (show (pre ++ [(k, f, sl, d)]).length = pn + 1 by rw [List.length_append, hpn]; rfl)
          have HFV := Lib.hid hfV
          have HLB := Lib.hid hl
          have HNB := Lib.hid hn
          have hszV := hfV.size
          have HRV := Lib.hid (HR.out V (HFT.out.step hfV (fun k hk => .inr (by omega))))
          have c1 : V.cell? ⟨z, 0, none⟩ = some (.int .i64 la) := cell_of_ob hl 0
          have c2 : V.cell? ⟨z + 1, 0, none⟩ = some (.int .i64 pn) := cell_of_ob hn 0
          have c3 : V.cell? ⟨pb, 0, none⟩ = some (.int .i64 f) := cell_of_ob hop 0
          have c4 : V.cell? ⟨ba, 0, none⟩ = some (.slice A j C) := cell_of_ob (hfV.keep (hbz ba (by omega)) HQ2.out.1) 0
          have c5 : V.cell? ⟨ba + 1, 0, none⟩ = some (.int .i64 lo) := cell_of_ob (hfV.keep (hbz (ba + 1) (by omega)) HQ2.out.2.1) 0
          have c6 : V.cell? ⟨ba + 1 + 1, 0, none⟩ = some (.int .i64 hi) := cell_of_ob (hfV.keep (hbz (ba + 1 + 1) (by omega)) HQ2.out.2.2.1) 0
          have c7 : V.cell? ⟨ba + 1 + 1 + 1, 0, none⟩ = some (.bool false) := cell_of_ob (hfV.keep (hbz (ba + 1 + 1 + 1) (by omega)) HQ2.out.2.2.2) 0
          have z1 := frozen_of_ob hl 0
          have z2 := frozen_of_ob hn 0
          have z7 := frozen_of_ob (hfV.keep (hbz (ba + 1 + 1 + 1) (by omega)) HQ2.out.2.2.2) 0
          clear hla hpn hlen hl hn hop hfV heq hst ol0 on0 hbz HX
          by_cases h1 : k ≤ la
          · have HX1 := Lib.hid (show ¬ (pre ++ [(k, f, sl, d)] <+: pagesR q lo hi) from fun hp => by have := (HT.out hp).1; omega)
            gi_wp2
            exact ⟨keepsFrom_set (KeepsFrom.refl _ _) (by omega), HX1.out⟩
          by_cases h2 : k < lo
          · have HX1 := Lib.hid (show ¬ (pre ++ [(k, f, sl, d)] <+: pagesR q lo hi) from fun hp => by have := (HT.out hp).2.1; omega)
            gi_wp2
            exact ⟨keepsFrom_set (KeepsFrom.refl _ _) (by omega), HX1.out⟩
          by_cases h3 : hi ≤ k
          · have HX1 := Lib.hid (show ¬ (pre ++ [(k, f, sl, d)] <+: pagesR q lo hi) from fun hp => by have := (HT.out hp).2.2.1; omega)
            gi_wp2
            exact ⟨keepsFrom_set (KeepsFrom.refl _ _) (by omega), HX1.out⟩
          by_cases h4 : (j : Int) ≤ f
          · have HX1 := Lib.hid (show ¬ (pre ++ [(k, f, sl, d)] <+: pagesR q lo hi) from fun hp => by obtain ⟨_, _, _, i, h5, h6, _⟩ := HT.out hp; omega)
            gi_wp2
            exact ⟨keepsFrom_set (KeepsFrom.refl _ _) (by omega), HX1.out⟩
          by_cases h5 : f < 0
          · have HX1 := Lib.hid (show ¬ (pre ++ [(k, f, sl, d)] <+: pagesR q lo hi) from fun hp => by obtain ⟨_, _, _, i, h5, h6, _⟩ := HT.out hp; omega)
            gi_wp2
            exact ⟨keepsFrom_set (KeepsFrom.refl _ _) (by omega), HX1.out⟩
          obtain ⟨i, rfl⟩ : ∃ i : Nat, f = (i : Int) := ⟨f.toNat, by omega⟩
          obtain ⟨x, hxj⟩ : ∃ x, xs[i]? = some x := ⟨_, List.getElem?_eq_getElem (by have := HN.out; omega)⟩
          obtain ⟨g, off, n', cap', heq, hgl, c0⟩ := Rd.uint HRV.out hxj
          cases heq
          obtain ⟨hx0, hx1⟩ := HG.out x (List.mem_of_getElem? hxj)
          have hke : keyAt xs i = some (x % 20) := by unfold keyAt; rw [hxj]; rfl
          have HKE := Lib.hid hke
          clear hxj hke
          by_cases h6 : x % 20 = k
          case neg =>
            have HX1 := Lib.hid (show ¬ (pre ++ [(k, (i : Int), sl, d)] <+: pagesR q lo hi) from fun hp => by
              obtain ⟨_, _, _, i2, _, h7, h8, _⟩ := HT.out hp
              obtain rfl : i = i2 := by omega
              rw [HKE.out] at h8
              exact h6 (Option.some.inj h8))
            gi_wp2
            exact ⟨keepsFrom_set (KeepsFrom.refl _ _) (by omega), HX1.out⟩
          case pos =>
            have hij : i < j := by omega
            have HKX := Lib.hid (show ∀ i' : Nat, i < i' → i' < j → keyAt xs i' = some k → ¬ (pre ++ [(k, (i : Int), sl, d)] <+: pagesR q lo hi) from fun i' a b hc hp => by
              obtain ⟨_, _, _, i2, _, h7, _, h8⟩ := HT.out hp
              obtain rfl : i = i2 := by omega
              exact h8 i' a b hc)
            by_cases hcc : C = i + 1
            · obtain rfl : j = C := by omega
              have hz0 : j - (i + 1) = 0 := by omega
              gi_wp2
              gi_loop [112] (fun v => ∃ t1 : Nat, t1 ≤ j - (i + 1) ∧ v = .int .i64 t1) (fun v => j - (intOf v).toNat)
              case atStart => exact ⟨0, Nat.zero_le _, rfl⟩
              case round =>
                obtain ⟨t1, ht1, rfl⟩ := hrel
                by_cases hlt1 : t1 < j - (i + 1)
                · omega
                · gi_wp2
                  have hf5 : Fr (fun k => k = z ∨ k = z + 1) V ((V.setCell ⟨z, 0, none⟩ (.int .i64 k)).setCell ⟨z + 1, 0, none⟩ (.int .i64 ((pn : Int) + 1))) := ((Fr.refl _ _).setCell _ _ (.inl (.inl rfl))).setCell _ _ (.inl (.inr rfl))
                  have HF5 := HFV.out.step hf5 (fun _ h => .inl h)
                  exact ⟨keepsFrom_set (keepsFrom_set (KeepsFrom.refl _ _) (by omega)) (by omega), K3.of_fr hf5 (fun _ h _ => h), HF5, by rw [ob_setCell _ _ _ _ (by simp), HNEW.out]; exact ob_setCell_same HLB.out _, by rw [HPN.out]; exact ob_setCell_same ((ob_setCell _ _ _ _ (by simp)).trans HNB.out) _⟩
            · gi_wp2
              gi_loop [112] (fun v => ∃ t1 : Nat, t1 ≤ j - (i + 1) ∧ v = .int .i64 t1) (fun v => j - (intOf v).toNat)
              case atStart => exact ⟨0, Nat.zero_le _, rfl⟩
              case round =>
                obtain ⟨t1, ht1, rfl⟩ := hrel
                by_cases hlt1 : t1 < j - (i + 1)
                · obtain ⟨y, hy⟩ : ∃ y, xs[i + 1 + t1]? = some y := ⟨_, List.getElem?_eq_getElem (by have := HN.out; omega)⟩
                  obtain ⟨g', off', n', cap', heq, hgl, c8⟩ := Rd.uint HRV.out hy
                  cases heq
                  rw [show off + (i + 1 + t1) = off + (i + 1) + t1 by omega] at c8
                  obtain ⟨hy0, hy1⟩ := HG.out y (List.mem_of_getElem? hy)
                  have hky : keyAt xs (i + 1 + t1) = some (y % 20) := by unfold keyAt; rw [hy]; rfl
                  by_cases h7 : y % 20 = k
                  · have HX1 := Lib.hid (HKX.out (i + 1 + t1) (by omega) (by omega) (by rw [hky, h7]))
                    clear hky hy
                    gi_wp2
                    exact ⟨keepsFrom_set (KeepsFrom.refl _ _) (by omega), HX1.out⟩
                  · clear hky hy
                    gi_wp2
                    go_round
                    case rel => exact ⟨t1 + 1, by omega, by go_num⟩
                    case measure => simp [intOf]; omega
                · gi_wp2
                  have hf5 : Fr (fun k => k = z ∨ k = z + 1) V ((V.setCell ⟨z, 0, none⟩ (.int .i64 k)).setCell ⟨z + 1, 0, none⟩ (.int .i64 ((pn : Int) + 1))) := ((Fr.refl _ _).setCell _ _ (.inl (.inl rfl))).setCell _ _ (.inl (.inr rfl))
                  have HF5 := HFV.out.step hf5 (fun _ h => .inl h)
                  exact ⟨keepsFrom_set (keepsFrom_set (KeepsFrom.refl _ _) (by omega)) (by omega), K3.of_fr hf5 (fun _ h _ => h), HF5, by rw [ob_setCell _ _ _ _ (by simp), HNEW.out]; exact ob_setCell_same HLB.out _, by rw [HPN.out]; exact ob_setCell_same ((ob_setCell _ _ _ _ (by simp)).trans HNB.out) _⟩
        case done =>
          rintro M V hM ⟨hfV, hl, hn⟩ hm
          have hH4 := hH3.beside ((ObX.steady _ _ _).star Emp.steady) hfV (fun k hk => ⟨hk, by omega⟩)
          have hszV := hfV.size
          rw [HL.out] at hn
          have HQ3 := Lib.hid (show ob V (ba + 1) = some (.cells #[.int .i64 lo] 3 (0, 0)) ∧ ob V (ba + 1 + 1) = some (.cells #[.int .i64 hi] 3 (0, 0)) ∧ ob V (ba + 1 + 1 + 1) = some (.cells #[.bool false] 4 (0, 0)) ∧ ob V (z + 1) = some (.cells #[.int .i64 (cntTo q lo hi 20)] 3 (0, 0)) ∧ ob V M = some (.deferred (some [])) from ⟨hfV.keep (hbz (ba + 1) (by omega)) HQ2.out.2.1, hfV.keep (hbz (ba + 1 + 1) (by omega)) HQ2.out.2.2.1, hfV.keep (hbz (ba + 1 + 1 + 1) (by omega)) HQ2.out.2.2.2, hn, hm⟩)
          clear hl hn hm hfV hH3 heq hst ol0 on0 hbz HX
          go_wp2_with fail
          go_loopw [19, 20] (fun sw sk v => ∃ K : Nat, K ≤ 20 ∧ sk = .int .i64 K ∧ sw = .int .i64 (cntTo q lo hi K) ∧ Held (fun k => k = z ∨ k = z + 1) W v (Star (ObX b 1 (onePg q)) Emp) ∧ Hid (Fr (fun _ => False) V v)) (fun _ sk _ => 20 - (intOf sk).toNat)
          case atStart => exact ⟨0, by omega, rfl, rfl, hH4, Lib.hid (Fr.refl _ _)⟩
          case round =>
            obtain ⟨K, hK, rfl, rfl, hH5, HF⟩ := hrel
            clear hH4
            have hszr := HF.out.size
            by_cases hlt : K < 20
            · obtain ⟨S1, hS1⟩ := hH5.left
              have hge := get_any hS1 1 K
              rw [get_one] at hge
              have hcs := cntTo_succ q lo hi K
              have hcle := cntTo_le q lo hi K
              obtain ⟨⟨r1, r2, r3⟩, hr⟩ : ∃ r, (alGet q (K : Int)).getD (0, 0, false) = r := ⟨_, rfl⟩
              obtain ⟨ok, hok⟩ : ∃ ok, (alGet q (K : Int)).isSome = ok := ⟨_, rfl⟩
              have hcp : cntP q lo hi K = (ok && decide (lo ≤ (K : Int)) && decide ((K : Int) < hi)) := by unfold cntP; rw [hok]
              rw [hr, hok] at hge
              rw [hcp] at hcs
              obtain ⟨cn, hcn⟩ : ∃ cn, cntTo q lo hi K = cn := ⟨_, rfl⟩
              rw [hcn] at hcs hcle
              simp only [hcn]
              have HCS := Lib.hid hcs
              clear hcs hcp hr hok hS1 hcn
              go_wp2_with fail
              refine hge.mono ?_
              rintro e v ⟨rfl, hfv⟩
              simp only [pgV]
              have hfa := hfv.alloc (.cells #[.int .i64 r1, .int .i64 r2, .bool r3] 34)
              have HF6 := Lib.hid (HF.out.step hfa (fun _ h => h.elim))
              have hH6 := hH5.keep ((ObX.steady _ _ _).star Emp.steady) hfa
              have hfv2 := HF.out.step hfv (fun _ h => h.elim)
              have c5 : v.cell? ⟨ba + 1, 0, none⟩ = some (.int .i64 lo) := cell_of_ob (hfv2.keep (fun h => h) HQ3.out.1) 0
              have c6 : v.cell? ⟨ba + 1 + 1, 0, none⟩ = some (.int .i64 hi) := cell_of_ob (hfv2.keep (fun h => h) HQ3.out.2.1) 0
              have s5 := hfv.size
              have s6 : ba + 1 < v.heap.size := by omega
              have s7 : ba + 1 + 1 < v.heap.size := by omega
              clear hge hH5 hfa hfv hfv2
              by_cases hc : ok = true ∧ lo ≤ (K : Int) ∧ (K : Int) < hi
              · obtain ⟨rfl, h1, h2⟩ := hc
                have HC2 := Lib.hid (show cntTo q lo hi (K + 1) = cn + 1 by rw [HCS.out]; simp [h1, h2])
                go_wp2
                go_roundw
                case rel => exact ⟨K + 1, by omega, by go_num, by rw [HC2.out]; go_num, hH6, HF6⟩
                case measure => simp [intOf]; omega
              · have HC2 := Lib.hid (show cntTo q lo hi (K + 1) = cn by rw [HCS.out, if_neg (by simp; intro a b; exact Int.not_lt.1 (fun c => hc ⟨a, b, c⟩))]; rfl)
                cases ok with
                | false =>
                  clear hc
                  go_wp2
                  go_roundw
                  case rel => exact ⟨K + 1, by omega, by go_num, by rw [HC2.out], hH6, HF6⟩
                  case measure => simp [intOf]; omega
                | true =>
                  by_cases h1 : lo ≤ (K : Int)
                  · have h2 : hi ≤ (K : Int) := Int.not_lt.1 (fun c => hc ⟨rfl, h1, c⟩)
                    clear hc
                    go_wp2
                    go_roundw
                    case rel => exact ⟨K + 1, by omega, by go_num, by rw [HC2.out], hH6, HF6⟩
                    case measure => simp [intOf]; omega
                  · clear hc
                    go_wp2
                    go_roundw
                    case rel => exact ⟨K + 1, by omega, by go_num, by rw [HC2.out], hH6, HF6⟩
                    case measure => simp [intOf]; omega
            · obtain rfl : K = 20 := by omega
              obtain ⟨cn, hcn⟩ : ∃ cn, cntTo q lo hi 20 = cn := ⟨_, rfl⟩
              have q5 := HF.out.keep (fun h => h) HQ3.out.2.2.2.1
              rw [hcn] at q5
              simp only [hcn]
              have c7 : wr.cell? ⟨z + 1, 0, none⟩ = some (.int .i64 cn) := cell_of_ob q5 0
              have o8 := HF.out.keep (fun h => h) HQ3.out.2.2.1
              have o9 := HF.out.keep (fun h => h) HQ3.out.2.2.2.2
              have O8 := Lib.hid o8
              have O9 := Lib.hid o9
              have s8 := ob_lt q5
              clear q5 o8 o9 hcn
              go_wp2_with fail
              refine (lives_any wr).mono ?_
              rintro e w9 ⟨rfl, hf9⟩
              have o8 := hf9.keep (fun h => h) O8.out
              have o9 := hf9.keep (fun h => h) O9.out
              have c9 := cell_of_ob o8 0
              have z9 := frozen_of_ob o8 0
              have s9 := ob_lt o8
              have hfin : Fr (fun _ => False) W (w9.setCell ⟨ba + 1 + 1 + 1, 0, none⟩ (.bool true)) := (hH5.hf.step hf9 (fun _ h => h.elim)).setCell _ _ (.inr (by have := HBA.out; simp; omega))
              have hob : ob (w9.setCell ⟨ba + 1 + 1 + 1, 0, none⟩ (.bool true)) (ba + 1 + 1 + 1) = some (.cells #[.bool true] 4 (0, 0)) := ob_setCell_same o8 _
              have hm9 : ob (w9.setCell ⟨ba + 1 + 1 + 1, 0, none⟩ (.bool true)) M = some (.deferred (some [])) := (ob_setCell _ _ _ _ (by simp; omega)).trans o9
              clear c7 hH5 hf9 o8 o9
              go_wp2_with fail
              change LeavesInM _ _ _ _ _ _ (marks [M]) _ _
              refine leaves_marks (B := ba) [M] _ (by simp) (fun D hD => ?_) (by simp; omega) (fun w' hw' hc => ?_)
              · simp only [List.mem_cons, List.not_mem_nil, or_false] at hD
                subst hD
                exact ⟨hm9, by omega⟩
              have hc2 := cell_of_ob (hc _ _ _ _ hob) 0
              refine ⟨.bool true, ?_, rfl, ⟨hw'.os.trans hfin.os, hw'.tape.trans hfin.tape, hw'.output.trans hfin.output, Nat.le_trans hfin.size hw'.size, fun k hk hn => (hw'.block k (by have := HBA.out; omega)).trans (hfin.block k hk hn)⟩⟩
              simp at hc2
              simp [results, Try.f5, go_sem, hc2]
end Go.Proofs.Ytopfknikmhkaeaa
