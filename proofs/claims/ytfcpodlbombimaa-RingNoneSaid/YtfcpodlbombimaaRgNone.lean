/- RingNone returns true: rows that no call made; the walk. No conditions. -/
import Derived.Test.YtfcpodlbombimaaRgList
import Derived.Test.YtfcpodlbombimaaRgLives
import Derived.Test.YtfcpodlbombimaaRgWo
import Derived.Deep.RegionHeld3
namespace Go.Proofs.Ytfcpodlbombimaa
open Go.RowKit
set_option linter.unusedSimpArgs false
set_option linter.unusedVariables false
attribute [local go_sem] Oper.semAt_some
/-- The nil rows, or zero ones. -/
def EmpR (w : World) (pa : Option Addr) : Prop := pa = none ∨ ∃ z, pa = some ⟨z, 0, none⟩ ∧ ob w z = some (.cells #[.slice none 0 0, .map none] 53 (0, 0))
theorem EmpR.fr {w w1 : World} {pa : Option Addr} (h : EmpR w pa) (hf : Fr (fun _ => False) w w1) : EmpR w1 pa := by
  rcases h with rfl | ⟨z, rfl, ho⟩
  · exact .inl rfl
  · exact .inr ⟨z, rfl, hf.keep (fun h => h) ho⟩
section
variable {w : World} {pa : Option Addr}
theorem rowsE (h : EmpR w pa) : Calls Try.prog 34 #[.pointer pa] w fun e w' => e = .returned (.int .i64 0) ∧ w' = w := by
  rcases h with rfl | ⟨z, rfl, ho⟩
  · go_enter Try.func34, Try.ntmps34
    go_wp2
    go_ret
    exact ⟨rfl, rfl⟩
  · have c0 := cell_of_ob ho 0
    go_enter Try.func34, Try.ntmps34
    go_wp2
    go_ret
    exact ⟨rfl, rfl⟩
theorem isE (h : EmpR w pa) (n : Int) : Calls Try.prog 42 #[.pointer pa, .int .i64 n] w fun e w' => e = .returned (.bool false) ∧ w' = w := by
  go_enter Try.func42, Try.ntmps42
  go_wp2_with (go_at_call 34; refine (rowsE h).mono ?_; rintro e w1 ⟨rfl, rfl⟩)
  all_goals go_ret
  · exact ⟨by simp; omega, rfl⟩
  · exact ⟨rfl, rfl⟩
theorem whereE (h : EmpR w pa) (x : Int) : Calls Try.prog 23 #[.pointer pa, .int .i64 x] w fun e w' => e = .returned (.tuple #[.int .i64 0, .bool false]) ∧ w' = w := by
  go_enter Try.func23, Try.ntmps23
  go_wp2_with fail
  refine (rowsE h).mono ?_
  rintro e w1 ⟨rfl, rfl⟩
  go_wp2
  go_ret2
  exact ⟨rfl, rfl⟩
theorem removeE (h : EmpR w pa) (x : Int) : Calls Try.prog 17 #[.pointer pa, .int .i64 x] w fun e w' => e = .returned (.bool false) ∧ Fr (fun _ => False) w w' := by
  go_enter Try.func17, Try.ntmps17
  go_wp2_with fail
  refine (whereE (h.fr ((Fr.refl _ w).alloc _)) x).mono ?_
  rintro e w1 ⟨rfl, rfl⟩
  go_wp2
  go_ret
  exact ⟨rfl, (Fr.refl _ w).alloc _⟩
theorem enterE (h : EmpR w pa) (n x : Int) : Calls Try.prog 40 #[.pointer pa, .int .i64 n, .int .i64 x] w fun e w' => e = .returned (.bool false) ∧ w' = w := by
  go_enter Try.func40, Try.ntmps40
  go_wp2_with fail
  refine (isE h n).mono ?_
  rintro e w1 ⟨rfl, rfl⟩
  go_wp2
  go_ret
  exact ⟨rfl, rfl⟩
theorem pushE (h : EmpR w pa) (n x : Int) : Calls Try.prog 12 #[.pointer pa, .int .i64 n, .int .i64 x] w fun e w' => e = .returned (.bool false) ∧ w' = w := by
  go_enter Try.func12, Try.ntmps12
  go_wp2_with fail
  refine (enterE h n x).mono ?_
  rintro e w1 ⟨rfl, rfl⟩
  go_wp2
  go_ret
  exact ⟨rfl, rfl⟩
theorem frontE (h : EmpR w pa) (n x : Int) : Calls Try.prog 20 #[.pointer pa, .int .i64 n, .int .i64 x] w fun e w' => e = .returned (.bool false) ∧ w' = w := by
  go_enter Try.func20, Try.ntmps20
  go_wp2_with fail
  refine (enterE h n x).mono ?_
  rintro e w1 ⟨rfl, rfl⟩
  go_wp2
  go_ret
  exact ⟨rfl, rfl⟩
theorem lenRE (h : EmpR w pa) (n : Int) : Calls Try.prog 18 #[.pointer pa, .int .i64 n] w fun e w' => e = .returned (.int .i64 0) ∧ w' = w := by
  go_enter Try.func18, Try.ntmps18
  go_wp2_with fail
  refine (isE h n).mono ?_
  rintro e w1 ⟨rfl, rfl⟩
  go_wp2
  go_ret
  exact ⟨rfl, rfl⟩
end
set_option maxRecDepth 100000 in
set_option maxHeartbeats 4000000 in
theorem all1E_in {pa : Option Addr} (nf lp bx bi : Nat) (n : Int) (J : List Int → World → Prop)
    (W : World) (h : EmpR W pa) (ox : ob W bx = some (.cells #[.pointer pa] 24 (0, 0))) (oi : ob W bi = some (.cells #[.int .i64 n] 3 (0, 0))) (h0 : J [] W) (Jx : List Int → World → Prop) :
    CallsIn Fence.wide nf Try.prog 41 #[.func (.yield lp) #[] #[], .pointer (some ⟨bx, 0, none⟩), .pointer (some ⟨bi, 0, none⟩)] W fun e W' => (∃ v, e = .returned v) ∧
      ((∃ ys : List Int, ys = [] ∧ J ys W') ∨ (∃ pre : List Int, pre <+: [] ∧ Jx pre W')) := by
  have cx := cell_of_ob ox 0
  have ci := cell_of_ob oi 0
  have his := isE h n
  refine callsIn_of_wp Try.func41 rfl trivial ?_ rfl
  simp only [Try.ntmps41, List.size_toArray, List.length_cons, List.length_nil, Nat.reduceAdd, Nat.reduceSub, Array.replicate_succ, Array.replicate_zero, List.push_toArray, List.append_toArray, List.nil_append, List.cons_append]
  gi_wp2_with (refine ⟨trivial, (fun h => Bool.noConfusion h), ?_⟩; refine (callsIn_wide.2 his).mono ?_; rintro e w1 ⟨rfl, rfl⟩)
  refine bodyPost_ret (results_none rfl _ _ _) rfl ?_
  exact ⟨⟨_, rfl⟩, .inl ⟨_, rfl, h0⟩⟩
theorem all1E_stops {pa : Option Addr} (D : World → Nat → Prop) (nf bx bi : Nat) (n : Int)
    (w : World) (h : EmpR w pa) (ox : ob w bx = some (.cells #[.pointer pa] 24 (0, 0))) (oi : ob w bi = some (.cells #[.int .i64 n] 3 (0, 0))) :
    SeqStopsK Fence.wide nf Try.prog 41 #[.pointer (some ⟨bx, 0, none⟩), .pointer (some ⟨bi, 0, none⟩)] (fun x : Int => #[.int .i64 x]) (K2 D) (fun ys => ys = []) (fun pre => pre <+: []) 0 w :=
  fun l J Jx W hW hJ hJx hY h0 => by
    have hf : Fr (fun _ => False) w W := Fr.of_below hW
    exact all1E_in nf l bx bi n J W (h.fr hf) (hf.keep (fun h => h) ox) (hf.keep (fun h => h) oi) h0 Jx
set_option maxRecDepth 100000 in
set_option maxHeartbeats 4000000 in
theorem firstE {w : World} {pa : Option Addr} (h : EmpR w pa) (n : Int) :
    Calls Try.prog 31 #[.pointer pa, .int .i64 n] w fun e W' => e = .returned (.tuple #[.int .i64 0, .bool false]) ∧ Fr (fun _ => False) w W' := by
  refine (callsIn_wide (n := 9)).1 ?_
  refine callsIn_of_wp_marks Try.func31 rfl trivial ?_ rfl
  simp only [Try.ntmps31, List.size_toArray, List.length_cons, List.length_nil, Nat.reduceAdd, Nat.reduceSub, Array.replicate_succ, Array.replicate_zero, List.push_toArray, List.append_toArray, List.nil_append, List.cons_append]
  obtain ⟨W2, hW2⟩ : ∃ W2, (((w.alloc (.cells #[.int .i64 0] 3)).alloc (.cells #[.bool false] 4)).alloc (.cells #[.pointer pa] 24)).alloc (.cells #[.int .i64 n] 3) = W2 := ⟨_, rfl⟩
  have hf0 : Fr (fun _ => False) w W2 := by rw [← hW2]; exact ((((Fr.refl _ w).alloc _).alloc _).alloc _).alloc _
  have o0 : ob W2 w.heap.size = some (.cells #[.int .i64 0] 3 (0, 0)) := by rw [← hW2, ob_alloc _ _ _ (by simp <;> omega), ob_alloc _ _ _ (by simp <;> omega), ob_alloc _ _ _ (by simp <;> omega), ob_newAt _ _ _ (by simp <;> omega)]
  have o1 : ob W2 (w.heap.size + 1) = some (.cells #[.bool false] 4 (0, 0)) := by rw [← hW2, ob_alloc _ _ _ (by simp <;> omega), ob_alloc _ _ _ (by simp <;> omega), ob_newAt _ _ _ (by simp <;> omega)]
  have o2 : ob W2 (w.heap.size + 1 + 1) = some (.cells #[.pointer pa] 24 (0, 0)) := by rw [← hW2, ob_alloc _ _ _ (by simp), ob_newAt _ _ _ (by simp)]
  have o3 : ob W2 (w.heap.size + 1 + 1 + 1) = some (.cells #[.int .i64 n] 3 (0, 0)) := by rw [← hW2, ob_newAt _ _ _ (by simp)]
  have hs2 : W2.heap.size = w.heap.size + 4 := by rw [← hW2]; simp
  gi_wp2_with (refine ⟨trivial, ?_⟩; gi_at_call 16; refine (callsIn_wide.2 (allI_any _ _ _)).mono ?_; rintro e w' ⟨rfl, rfl⟩)
  clear hW2
  have hB2 : Below w.heap.size w W2 := hf0.below (Nat.le_refl _) (fun _ h => h.elim)
  have d0 := cell_of_ob o0 0
  have d1 := cell_of_ob o1 0
  have e0 := frozen_of_ob o0 0
  have e1 := frozen_of_ob o1 0
  refine wpIn_rangeFunc_ownF rfl (by decide) (gf := 41) (lb := #[.pointer (some ⟨w.heap.size + 1 + 1, 0, none⟩), .pointer (some ⟨w.heap.size + 1 + 1 + 1, 0, none⟩)]) rfl trivial (Go.Proofs.enters_of Try.func41 (by kernel_rfl) rfl)
    (all1E_stops (fun _ k => k = w.heap.size ∨ k = w.heap.size + 1) 8 (w.heap.size + 1 + 1) (w.heap.size + 1 + 1 + 1) n W2 (h.fr hf0) o2 o3) K2.trans (fun W l o o' _ hl hc _ => K2.put hl hc (fun _ h => h)) (Below.refl _ _) (fun _ => rfl)
    (fun pre W => (pre = [] ∧ W.cell? ⟨w.heap.size, 0, none⟩ = some (.int .i64 0) ∧ W.frozen? ⟨w.heap.size, 0, none⟩ = false ∧ W.cell? ⟨w.heap.size + 1, 0, none⟩ = some (.bool false) ∧ W.frozen? ⟨w.heap.size + 1, 0, none⟩ = false) ∧ Below w.heap.size w W)
    (fun c pre W => (c = .ret ∧ (∃ x, pre = [x] ∧ W.cell? ⟨w.heap.size, 0, none⟩ = some (.int .i64 x)) ∧ W.cell? ⟨w.heap.size + 1, 0, none⟩ = some (.bool true)) ∧ Below w.heap.size w W)
    (OwnFrom.and (Own.from (fun s A B row hs hg hr => ⟨hs.1, cell_kept hs.2.1 hg hr, (frozen_kept hs.2.1 hg hr).trans hs.2.2.1, cell_kept hs.2.2.2.1 hg hr, (frozen_kept hs.2.2.2.1 hg hr).trans hs.2.2.2.2⟩) _) (ownFrom_below (Nat.le_refl _) (by omega)))
    (fun c => OwnFrom.and (Own.from (fun s A B row hs hg hr => ⟨hs.1, hs.2.1.imp (fun x h => ⟨h.1, cell_kept h.2 hg hr⟩), cell_kept hs.2.2 hg hr⟩) _) (ownFrom_below (Nat.le_refl _) (by omega)))
    ⟨⟨rfl, d0, e0, d1, e1⟩, hB2⟩
    (fun x => { tmps := #[.pointer pa, .int .i64 n, undef, undef, .pointer (some ⟨w.heap.size, 0, none⟩), .pointer (some ⟨w.heap.size + 1, 0, none⟩), .int .i64 x, undef, .pointer pa, .int .i64 n, .func (.func 41) #[] #[.pointer (some ⟨w.heap.size + 1 + 1, 0, none⟩), .pointer (some ⟨w.heap.size + 1 + 1 + 1, 0, none⟩)], .int .i64 x, undef, undef], defers := [] }) ?assign ?body ?done ?stop
  case assign =>
    intro l x W K hK
    gi_wp2
    exact hK
  case body =>
    rintro l pre x W _ hlt
    exact absurd hlt (Nat.not_lt_zero _)
  case done =>
    rintro D ys W hD rfl ⟨⟨hn, c0, f0, c1, f1⟩, hB⟩ hK
    gi_wp2
    have g0 : (W.setCell ⟨w.heap.size, 0, none⟩ (.int .i64 0)).cell? ⟨w.heap.size, 0, none⟩ = some (.int .i64 0) := World.cell?_setCell_same' _ _ _ (by rw [c0]; rfl)
    have g1 : (W.setCell ⟨w.heap.size, 0, none⟩ (.int .i64 0)).cell? ⟨w.heap.size + 1, 0, none⟩ = some (.bool false) := by rw [World.cell?_setCell_other (h := by simp)]; exact c1
    have q0 : ((W.setCell ⟨w.heap.size, 0, none⟩ (.int .i64 0)).setCell ⟨w.heap.size + 1, 0, none⟩ (.bool false)).cell? ⟨w.heap.size, 0, none⟩ = some (.int .i64 0) := by rw [World.cell?_setCell_other (h := by simp)]; exact g0
    have q1 : ((W.setCell ⟨w.heap.size, 0, none⟩ (.int .i64 0)).setCell ⟨w.heap.size + 1, 0, none⟩ (.bool false)).cell? ⟨w.heap.size + 1, 0, none⟩ = some (.bool false) := World.cell?_setCell_same' _ _ _ (by rw [g1]; rfl)
    have hB' := (hB.setCell (p := ⟨w.heap.size, 0, none⟩) (Nat.le_refl _) (.int .i64 0)).setCell (p := ⟨w.heap.size + 1, 0, none⟩) (by simp) (.bool false)
    have hK' := ((KeepsOthers.setCell W ⟨w.heap.size, 0, none⟩ (.int .i64 0)).trans (KeepsOthers.setCell _ ⟨w.heap.size + 1, 0, none⟩ (.bool false))).same D _ hK rfl
    refine ⟨by simp, .inl ⟨_, _, rfl, run_takeDeferred hK', ?_⟩⟩
    have p0 := cell_kept q0 (grownBy_putObj' _ D (.deferred none)) (fun r e => by cases e; exact ⟨_, hK', rfl⟩)
    have p1 := cell_kept q1 (grownBy_putObj' _ D (.deferred none)) (fun r e => by cases e; exact ⟨_, hK', rfl⟩)
    refine ⟨.tuple #[.int .i64 0, .bool false], ?_, ⟨rfl, below_fr (hB'.trans (belowK_b (w := w) (Nat.le_refl _) _ D _ _ (by omega) hK' rfl rfl)) rfl⟩⟩
    simp [results, Try.f31, go_sem, p0, p1]
  case stop =>
    rintro D c pre W hD hpre ⟨⟨rfl, ⟨x, rfl, c0⟩, c1⟩, hB⟩ hK
    exact absurd (List.prefix_nil.1 hpre) (by simp)
theorem shiftE {w : World} {pa : Option Addr} (h : EmpR w pa) (n : Int) : Calls Try.prog 19 #[.pointer pa, .int .i64 n] w fun e W' => e = .returned (.tuple #[.int .i64 0, .bool false]) ∧ Fr (fun _ => False) w W' := by
  go_enter Try.func19, Try.ntmps19
  go_wp2_with fail
  refine (firstE h n).mono ?_
  rintro e w1 ⟨rfl, hf⟩
  go_wp2
  go_ret2
  exact ⟨rfl, hf⟩
theorem turnE {w : World} {pa : Option Addr} (h : EmpR w pa) (n : Int) : Calls Try.prog 14 #[.pointer pa, .int .i64 n] w fun e W' => e = .returned (.bool false) ∧ Fr (fun _ => False) w W' := by
  go_enter Try.func14, Try.ntmps14
  go_wp2_with fail
  refine (firstE h n).mono ?_
  rintro e w1 ⟨rfl, hf⟩
  go_wp2
  go_ret
  exact ⟨rfl, hf⟩
set_option maxRecDepth 100000 in
set_option maxHeartbeats 4000000 in
theorem listE {w : World} {pa : Option Addr} (h : EmpR w pa) (n most : Int) :
    Calls Try.prog 13 #[.pointer pa, .int .i64 n, .int .i64 most] w fun e W' => e = .returned (.slice none 0 0) ∧ Fr (fun _ => False) w W' := by
  refine (callsIn_wide (n := 9)).1 ?_
  refine callsIn_of_wp_marks Try.func13 rfl trivial ?_ rfl
  simp only [Try.ntmps13, List.size_toArray, List.length_cons, List.length_nil, Nat.reduceAdd, Nat.reduceSub, Array.replicate_succ, Array.replicate_zero, List.push_toArray, List.append_toArray, List.nil_append, List.cons_append]
  obtain ⟨W2, hW2⟩ : ∃ W2, (((w.alloc (.cells #[.int .i64 most] 3)).alloc (.cells #[.pointer pa] 24)).alloc (.cells #[.int .i64 n] 3)).alloc (.cells #[.slice none 0 0] 22) = W2 := ⟨_, rfl⟩
  have hf0 : Fr (fun _ => False) w W2 := by rw [← hW2]; exact ((((Fr.refl _ w).alloc _).alloc _).alloc _).alloc _
  have o0 : ob W2 w.heap.size = some (.cells #[.int .i64 most] 3 (0, 0)) := by rw [← hW2, ob_alloc _ _ _ (by simp <;> omega), ob_alloc _ _ _ (by simp <;> omega), ob_alloc _ _ _ (by simp <;> omega), ob_newAt _ _ _ (by simp <;> omega)]
  have o1 : ob W2 (w.heap.size + 1) = some (.cells #[.pointer pa] 24 (0, 0)) := by rw [← hW2, ob_alloc _ _ _ (by simp <;> omega), ob_alloc _ _ _ (by simp <;> omega), ob_newAt _ _ _ (by simp <;> omega)]
  have o2 : ob W2 (w.heap.size + 1 + 1) = some (.cells #[.int .i64 n] 3 (0, 0)) := by rw [← hW2, ob_alloc _ _ _ (by simp), ob_newAt _ _ _ (by simp)]
  have o3 : ob W2 (w.heap.size + 1 + 1 + 1) = some (.cells #[.slice none 0 0] 22 (0, 0)) := by rw [← hW2, ob_newAt _ _ _ (by simp)]
  have hs2 : W2.heap.size = w.heap.size + 4 := by rw [← hW2]; simp
  have heq := fun w f x y => eql_func_nil (P := Try.prog) w 32 f x y Try.underlying32
  gi_wp2_with (refine ⟨trivial, ?_⟩; gi_at_call 16; refine (callsIn_wide.2 (allI_any _ _ _)).mono ?_; rintro e w' ⟨rfl, rfl⟩)
  clear hW2 heq
  have hB2 : Below w.heap.size w W2 := hf0.below (Nat.le_refl _) (fun _ h => h.elim)
  obtain ⟨lb, hlb⟩ : ∃ lb, w.heap.size + 1 + 1 + 1 = lb := ⟨_, rfl⟩
  rw [hlb] at o3 ⊢
  refine wpIn_rangeFunc_ownF rfl (by decide) (gf := 41) (lb := #[.pointer (some ⟨w.heap.size + 1, 0, none⟩), .pointer (some ⟨w.heap.size + 1 + 1, 0, none⟩)]) rfl trivial (Go.Proofs.enters_of Try.func41 (by kernel_rfl) rfl)
    (all1E_stops (fun _ _ => False) 8 (w.heap.size + 1) (w.heap.size + 1 + 1) n W2 (h.fr hf0) o1 o2) K2.trans (fun W l o o' _ hl hc _ => K2.put hl hc (fun _ h => h)) (Below.refl _ _) (fun _ => rfl)
    (fun pre W => ob W lb = some (.cells #[.slice none 0 0] 22 (0, 0)) ∧ Below w.heap.size w W)
    (fun c pre W => False ∧ Below w.heap.size w W)
    (OwnFrom.and (Own.from (fun s A B row hs hg hr => ob_kept hs hg hr) _) (ownFrom_below (Nat.le_refl _) (by omega)))
    (fun c => OwnFrom.and (Own.from (fun s A B row hs hg hr => hs) _) (ownFrom_below (Nat.le_refl _) (by omega)))
    ⟨o3, hB2⟩
    (fun x => { tmps := #[.pointer pa, .int .i64 n, .int .i64 most, undef, undef, .pointer (some ⟨w.heap.size, 0, none⟩), .slice none 0 0, .func (.func 41) #[] #[.pointer (some ⟨w.heap.size + 1, 0, none⟩), .pointer (some ⟨w.heap.size + 1 + 1, 0, none⟩)], .pointer (some ⟨lb, 0, none⟩), .int .i64 x, .pointer pa, .int .i64 n, .func (.func 41) #[] #[.pointer (some ⟨w.heap.size + 1, 0, none⟩), .pointer (some ⟨w.heap.size + 1 + 1, 0, none⟩)], .func (.func 41) #[] #[.pointer (some ⟨w.heap.size + 1, 0, none⟩), .pointer (some ⟨w.heap.size + 1 + 1, 0, none⟩)], .bool false, undef, .func (.func 41) #[] #[.pointer (some ⟨w.heap.size + 1, 0, none⟩), .pointer (some ⟨w.heap.size + 1 + 1, 0, none⟩)], .int .i64 x, undef, undef, undef, undef, undef, undef, undef, undef, undef], defers := [] }) ?assign ?body ?done ?stop
  case assign =>
    intro l x W K hK
    gi_wp2
    exact hK
  case body =>
    rintro l pre x W _ hlt
    exact absurd hlt (Nat.not_lt_zero _)
  case done =>
    rintro D ys W hD rfl ⟨hv, hB⟩ hK
    have c0 := cell_of_ob hv 0
    gi_wp2
    refine ⟨by simp, .inl ⟨_, _, rfl, run_takeDeferred hK, ?_⟩⟩
    refine ⟨_, results_tmp rfl _ _ _, ⟨rfl, below_fr (hB.trans (belowK_b (w := w) (Nat.le_refl _) W D _ _ (by omega) hK rfl rfl)) rfl⟩⟩
  case stop =>
    rintro D c pre W hD hpre ⟨hF, hB⟩ hK
    exact hF.elim
@[go_sem] theorem index0R (a b : Option Addr) (w : World) : (Instr.index 54 (.agg #[.pointer a, .pointer b]) (.int .i64 0)).run Try.prog w = .ok (.pointer a) w := by kernel_rfl
@[go_sem] theorem index1R (a b : Option Addr) (w : World) : (Instr.index 54 (.agg #[.pointer a, .pointer b]) (.int .i64 1)).run Try.prog w = .ok (.pointer b) w := by kernel_rfl
set_option maxRecDepth 100000 in
set_option maxHeartbeats 8000000 in
theorem none_walk (w : World) (kd rw_ it : Int) :
    Calls Try.prog 8 #[.agg #[.int .i64 kd, .int .i64 rw_, .int .i64 it]] w fun e w' => e = .returned (.bool true) ∧ Fr (fun _ => False) w w' := by
  go_enter Try.func8, Try.ntmps8
  go_wp2_with fail
  obtain ⟨W, hW⟩ : ∃ W, W = (w.alloc (.cells #[.int .i64 kd, .int .i64 rw_, .int .i64 it] 42)).alloc (.cells #[.slice none 0 0, .map none] 53) := ⟨_, rfl⟩
  rw [← hW]
  have hfr : Fr (fun _ => False) w W := by rw [hW]; exact ((Fr.refl _ _).alloc _).alloc _
  have oa : ob W w.heap.size = some (.cells #[.int .i64 kd, .int .i64 rw_, .int .i64 it] 42 (0, 0)) := by
    rw [hW, ob_alloc _ _ _ (by simp only [World.size_alloc]; omega), ob_new]
  have oz : ob W (w.heap.size + 1) = some (.cells #[.slice none 0 0, .map none] 53 (0, 0)) := by
    rw [hW, ob_newAt _ _ _ (by simp)]
  obtain ⟨ba, hba⟩ : ∃ k, w.heap.size = k := ⟨_, rfl⟩
  rw [hba] at oa oz ⊢
  clear hW hba
  go_loopw [13] (fun i wr => ∃ j : Nat, j ≤ 2 ∧ i = .int .i64 j ∧ Fr (fun _ => False) W wr) (fun i _ => 2 - (intOf i).toNat)
  case atStart => exact ⟨0, by omega, rfl, Fr.refl _ _⟩
  case round =>
    obtain ⟨j, hj, rfl, hf⟩ := hrel
    have o0 := hf.keep (fun h => h) oa
    have oz0 := hf.keep (fun h => h) oz
    have hfw : Fr (fun _ => False) w wr := hfr.step hf (fun _ h => h.elim)
    have HFW := Lib.hid hfw
    have HF := Lib.hid hf
    clear oa oz hfr hf hfw
    have p1 := cell_of_ob o0 1
    have p2 := cell_of_ob o0 2
    have s0 := ob_lt o0
    by_cases hj2 : j < 2
    · have hE : ∃ a : Option Addr, (j = 0 ∧ a = none ∨ j = 1 ∧ a = some ⟨ba + 1, 0, none⟩) ∧ EmpR wr a := by
        rcases (by omega : j = 0 ∨ j = 1) with h | h
        · exact ⟨none, .inl ⟨h, rfl⟩, .inl rfl⟩
        · exact ⟨_, .inr ⟨h, rfl⟩, .inr ⟨_, rfl, oz0⟩⟩
      obtain ⟨pa, hpa, hE⟩ := hE
      have hidx : (Instr.index 54 (.agg #[.pointer none, .pointer (some ⟨ba + 1, 0, none⟩)]) (.int .i64 j)).run Try.prog wr = .ok (.pointer pa) wr := by
        rcases hpa with ⟨rfl, rfl⟩ | ⟨rfl, rfl⟩
        · exact index0R _ _ _
        · exact index1R _ _ _
      clear oz0 hpa
      go_wp2_with fail
      refine (firstE hE rw_).mono ?_
      rintro e w2 ⟨rfl, hf2⟩
      clear p1 p2 s0 hidx
      have o2 := hf2.keep (fun h => h) o0
      have p1 := cell_of_ob o2 1
      go_wp2_with fail
      refine (shiftE (hE.fr hf2) rw_).mono ?_
      rintro e w3 ⟨rfl, hf3⟩
      clear p1
      have hf3' := hf2.step hf3 (fun _ h => h.elim)
      have o3 := hf3'.keep (fun h => h) o0
      have p2 := cell_of_ob o3 2
      have hE3 := hE.fr hf3'
      go_wp2_with fail
      refine (whereE hE3 it).mono ?_
      rintro e w4 ⟨rfl, rfl⟩
      have p1 := cell_of_ob o3 1
      have HF3 := Lib.hid hf3'
      have HO3 := Lib.hid o3
      clear hf3 hf2 o2 hf3' hE o0
      go_wp2_with fail
      have hS0 : w4.cell? ⟨ba, 1, none⟩ = some (.int .i64 rw_) ∧ w4.cell? ⟨ba, 2, none⟩ = some (.int .i64 it) := ⟨p1, p2⟩
      go_region_held3 (fun w' => w'.cell? ⟨ba, 1, none⟩ = some (.int .i64 rw_) ∧ w'.cell? ⟨ba, 2, none⟩ = some (.int .i64 it)) (first | exact hS0 | assumption | go_keep)
        (first
          | (go_at_call 12; refine (pushE (hE3.fr (Fr.refl _ _).drew) _ _).mono ?_; rintro e w5 ⟨rfl, rfl⟩)
          | (go_at_call 20; refine (frontE (hE3.fr (Fr.refl _ _).drew) _ _).mono ?_; rintro e w5 ⟨rfl, rfl⟩)
          | (go_at_call 17; refine (removeE (hE3.fr (Fr.refl _ _).drew) _).mono ?_; rintro e w6 ⟨rfl, hf6⟩; have hF6 : Fr (fun _ => False) w4 w6 := (Fr.refl _ w4).drew.step hf6 (fun _ h => h.elim); have hE6 := hE3.fr hF6; have hS6 := And.intro (cell_of_ob (hF6.keep (fun h => h) HO3.out) 1) (cell_of_ob (hF6.keep (fun h => h) HO3.out) 2))
          | (go_at_call 14; refine (turnE hE6 _).mono ?_; rintro e w7 ⟨rfl, hf7⟩; have hF7 : Fr (fun _ => False) w4 w7 := hF6.step hf7 (fun _ h => h.elim); have hE7 := hE3.fr hF7; have hS7 := And.intro (cell_of_ob (hF7.keep (fun h => h) HO3.out) 1) (cell_of_ob (hF7.keep (fun h => h) HO3.out) 2))
          | (go_at_call 18; refine (lenRE hE7 _).mono ?_; rintro e w8 ⟨rfl, rfl⟩)
          | (go_at_call 34; refine (rowsE hE7).mono ?_; rintro e w8 ⟨rfl, rfl⟩)
          | (go_at_call 13; refine (listE hE7 _ _).mono ?_; rintro e w9 ⟨rfl, hf9⟩; have hF9 : Fr (fun _ => False) w4 w9 := hF7.step hf9 (fun _ h => h.elim); have hS9 := And.intro (cell_of_ob (hF9.keep (fun h => h) HO3.out) 1) (cell_of_ob (hF9.keep (fun h => h) HO3.out) 2)))
      all_goals (
        clear hS0 p1 p2
        go_wp2
        go_roundw
        case rel => exact ⟨j + 1, by omega, by go_num, (HF.out.step HF3.out (fun _ h => h.elim)).step hF9 (fun _ h => h.elim)⟩
        case measure => simp [intOf]; omega)
    · obtain rfl : j = 2 := by omega
      clear p1 p2 oz0
      go_wp2_with fail
      refine (lives_any _).mono ?_
      rintro e w9 ⟨rfl, hf9⟩
      go_wp2
      go_ret
      exact ⟨rfl, HFW.out.step hf9 (fun _ h => h.elim)⟩
end Go.Proofs.Ytfcpodlbombimaa
