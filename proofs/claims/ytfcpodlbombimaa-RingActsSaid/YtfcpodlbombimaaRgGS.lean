/- ring.Rows[string]: First, Shift, Turn. No conditions. -/
import Derived.Test.YtfcpodlbombimaaRgFS
import Derived.Shelf.Abstract
namespace Go.Proofs.Ytfcpodlbombimaa
open Go.RowKit
set_option linter.unusedSimpArgs false
set_option linter.unusedVariables false
attribute [local go_sem] Oper.semAt_some
/-- The first of a list, if any. -/
def FirstIsS (l : List ByteArray) (x : Value) (ok : Bool) : Prop := (ok = true ∧ ∃ y r, l = y :: r ∧ x = Value.string y) ∨ (ok = false ∧ l = [] ∧ x = Value.string ⟨#[]⟩)
set_option maxRecDepth 100000 in
set_option maxHeartbeats 4000000 in
theorem firstS_any {w : World} {b r m : Nat} {vs : List Value} {L : List (List ByteArray)} {Wm : List (ByteArray × Int)} (h : RTS w b r m vs L Wm) (hg : ∀ l ∈ L, l.length ≤ 5000) (n : Int) :
    Calls Try.prog 37 #[.pointer (some ⟨b, 0, none⟩), .int .i64 n] w fun e W' => ∃ x ok, e = .returned (.tuple #[x, .bool ok]) ∧ FirstIsS (rowAtS L n) x ok ∧ Fr (fun _ => False) w W' := by
  refine (callsIn_wide (n := 9)).1 ?_
  refine callsIn_of_wp_marks Try.func37 rfl trivial ?_ rfl
  simp only [Try.ntmps37, List.size_toArray, List.length_cons, List.length_nil, Nat.reduceAdd, Nat.reduceSub, Array.replicate_succ, Array.replicate_zero, List.push_toArray, List.append_toArray, List.nil_append, List.cons_append]
  obtain ⟨W2, hW2⟩ : ∃ W2, (((w.alloc (.cells #[Value.string ⟨#[]⟩] 9)).alloc (.cells #[.bool false] 4)).alloc (.cells #[.pointer (some ⟨b, 0, none⟩)] 57)).alloc (.cells #[.int .i64 n] 3) = W2 := ⟨_, rfl⟩
  have hf0 : Fr (fun _ => False) w W2 := by rw [← hW2]; exact ((((Fr.refl _ w).alloc _).alloc _).alloc _).alloc _
  have o0 : ob W2 w.heap.size = some (.cells #[Value.string ⟨#[]⟩] 9 (0, 0)) := by rw [← hW2, ob_alloc _ _ _ (by simp <;> omega), ob_alloc _ _ _ (by simp <;> omega), ob_alloc _ _ _ (by simp <;> omega), ob_newAt _ _ _ (by simp <;> omega)]
  have o1 : ob W2 (w.heap.size + 1) = some (.cells #[.bool false] 4 (0, 0)) := by rw [← hW2, ob_alloc _ _ _ (by simp <;> omega), ob_alloc _ _ _ (by simp <;> omega), ob_newAt _ _ _ (by simp <;> omega)]
  have o2 : ob W2 (w.heap.size + 1 + 1) = some (.cells #[.pointer (some ⟨b, 0, none⟩)] 57 (0, 0)) := by rw [← hW2, ob_alloc _ _ _ (by simp), ob_newAt _ _ _ (by simp)]
  have o3 : ob W2 (w.heap.size + 1 + 1 + 1) = some (.cells #[.int .i64 n] 3 (0, 0)) := by rw [← hW2, ob_newAt _ _ _ (by simp)]
  have hs2 : W2.heap.size = w.heap.size + 4 := by rw [← hW2]; simp
  gi_wp2_with (refine ⟨trivial, ?_⟩; gi_at_call 50; refine (callsIn_wide.2 (allS_any _ _ _)).mono ?_; rintro e w' ⟨rfl, rfl⟩)
  clear hW2
  have hD : ∀ (W1 : World) (k : Nat), Fr (fun _ => False) W2 W1 → W2.heap.size ≤ k → ¬ (k = w.heap.size ∨ k = w.heap.size + 1) := fun W1 k _ hk => by omega
  have hB2 : Below w.heap.size w W2 := hf0.below (Nat.le_refl _) (fun _ h => h.elim)
  have d0 := cell_of_ob o0 0
  have d1 := cell_of_ob o1 0
  have e0 := frozen_of_ob o0 0
  have e1 := frozen_of_ob o1 0
  refine wpIn_rangeFunc_ownF rfl (by decide) (gf := 57) (lb := #[.pointer (some ⟨w.heap.size + 1 + 1, 0, none⟩), .pointer (some ⟨w.heap.size + 1 + 1 + 1, 0, none⟩)]) rfl trivial (Go.Proofs.enters_of Try.func57 (by kernel_rfl) rfl)
    (all1S_stops (fun _ k => k = w.heap.size ∨ k = w.heap.size + 1) 8 (w.heap.size + 1 + 1) (w.heap.size + 1 + 1 + 1) n W2 (h.keep hf0) hg o2 o3 hD) K2.trans (fun W l o o' _ hl hc _ => K2.put hl hc (fun _ h => h)) (Below.refl _ _) (fun _ => rfl)
    (fun pre W => (pre = [] ∧ W.cell? ⟨w.heap.size, 0, none⟩ = some (Value.string ⟨#[]⟩) ∧ W.frozen? ⟨w.heap.size, 0, none⟩ = false ∧ W.cell? ⟨w.heap.size + 1, 0, none⟩ = some (.bool false) ∧ W.frozen? ⟨w.heap.size + 1, 0, none⟩ = false) ∧ Below w.heap.size w W)
    (fun c pre W => (c = .ret ∧ (∃ x, pre = [x] ∧ W.cell? ⟨w.heap.size, 0, none⟩ = some (Value.string x)) ∧ W.cell? ⟨w.heap.size + 1, 0, none⟩ = some (.bool true)) ∧ Below w.heap.size w W)
    (OwnFrom.and (Own.from (fun s A B row hs hg hr => ⟨hs.1, cell_kept hs.2.1 hg hr, (frozen_kept hs.2.1 hg hr).trans hs.2.2.1, cell_kept hs.2.2.2.1 hg hr, (frozen_kept hs.2.2.2.1 hg hr).trans hs.2.2.2.2⟩) _) (ownFrom_below (Nat.le_refl _) (by omega)))
    (fun c => OwnFrom.and (Own.from (fun s A B row hs hg hr => ⟨hs.1, hs.2.1.imp (fun x h => ⟨h.1, cell_kept h.2 hg hr⟩), cell_kept hs.2.2 hg hr⟩) _) (ownFrom_below (Nat.le_refl _) (by omega)))
    ⟨⟨rfl, d0, e0, d1, e1⟩, hB2⟩
    (fun x => { tmps := #[.pointer (some ⟨b, 0, none⟩), .int .i64 n, undef, undef, .pointer (some ⟨w.heap.size, 0, none⟩), .pointer (some ⟨w.heap.size + 1, 0, none⟩), Value.string x, undef, .pointer (some ⟨b, 0, none⟩), .int .i64 n, .func (.func 57) #[] #[.pointer (some ⟨w.heap.size + 1 + 1, 0, none⟩), .pointer (some ⟨w.heap.size + 1 + 1 + 1, 0, none⟩)], Value.string x, undef, undef], defers := [] }) ?assign ?body ?done ?stop
  case assign =>
    intro l x W K hK
    gi_wp2
    exact hK
  case body =>
    rintro l pre x W ⟨⟨rfl, c0, f0, c1, f1⟩, hB⟩ _
    gi_wp2
    have g0 : (W.setCell ⟨w.heap.size, 0, none⟩ (Value.string x)).cell? ⟨w.heap.size, 0, none⟩ = some (Value.string x) := World.cell?_setCell_same' _ _ _ (by rw [c0]; rfl)
    have g1 : (W.setCell ⟨w.heap.size, 0, none⟩ (Value.string x)).cell? ⟨w.heap.size + 1, 0, none⟩ = some (.bool false) := by rw [World.cell?_setCell_other (h := by simp)]; exact c1
    exact ⟨(KeepsOthers.setCell _ _ _).trans (KeepsOthers.setCell _ _ _), ⟨rfl, ⟨x, rfl, by rw [World.cell?_setCell_other (h := by simp)]; exact g0⟩, World.cell?_setCell_same' _ _ _ (by rw [g1]; rfl)⟩,
      (hB.setCell (p := ⟨w.heap.size, 0, none⟩) (Nat.le_refl _) _).setCell (p := ⟨w.heap.size + 1, 0, none⟩) (by simp) _⟩
  case done =>
    rintro D ys W hD rfl ⟨⟨hn, c0, f0, c1, f1⟩, hB⟩ hK
    gi_wp2
    have g0 : (W.setCell ⟨w.heap.size, 0, none⟩ (Value.string ⟨#[]⟩)).cell? ⟨w.heap.size, 0, none⟩ = some (Value.string ⟨#[]⟩) := World.cell?_setCell_same' _ _ _ (by rw [c0]; rfl)
    have g1 : (W.setCell ⟨w.heap.size, 0, none⟩ (Value.string ⟨#[]⟩)).cell? ⟨w.heap.size + 1, 0, none⟩ = some (.bool false) := by rw [World.cell?_setCell_other (h := by simp)]; exact c1
    have q0 : ((W.setCell ⟨w.heap.size, 0, none⟩ (Value.string ⟨#[]⟩)).setCell ⟨w.heap.size + 1, 0, none⟩ (.bool false)).cell? ⟨w.heap.size, 0, none⟩ = some (Value.string ⟨#[]⟩) := by rw [World.cell?_setCell_other (h := by simp)]; exact g0
    have q1 : ((W.setCell ⟨w.heap.size, 0, none⟩ (Value.string ⟨#[]⟩)).setCell ⟨w.heap.size + 1, 0, none⟩ (.bool false)).cell? ⟨w.heap.size + 1, 0, none⟩ = some (.bool false) := World.cell?_setCell_same' _ _ _ (by rw [g1]; rfl)
    have hB' := (hB.setCell (p := ⟨w.heap.size, 0, none⟩) (Nat.le_refl _) (Value.string ⟨#[]⟩)).setCell (p := ⟨w.heap.size + 1, 0, none⟩) (by simp) (.bool false)
    have hK' := ((KeepsOthers.setCell W ⟨w.heap.size, 0, none⟩ (Value.string ⟨#[]⟩)).trans (KeepsOthers.setCell _ ⟨w.heap.size + 1, 0, none⟩ (.bool false))).same D _ hK rfl
    refine ⟨by simp, .inl ⟨_, _, rfl, run_takeDeferred hK', ?_⟩⟩
    have p0 := cell_kept q0 (grownBy_putObj' _ D (.deferred none)) (fun r e => by cases e; exact ⟨_, hK', rfl⟩)
    have p1 := cell_kept q1 (grownBy_putObj' _ D (.deferred none)) (fun r e => by cases e; exact ⟨_, hK', rfl⟩)
    refine ⟨.tuple #[Value.string ⟨#[]⟩, .bool false], ?_, ⟨_, _, rfl, .inr ⟨rfl, hn, rfl⟩, below_fr (hB'.trans (belowK_b (w := w) (Nat.le_refl _) _ D _ _ (by omega) hK' rfl rfl)) rfl⟩⟩
    simp [results, Try.f37, go_sem, p0, p1]
  case stop =>
    rintro D c pre W hD hpre ⟨⟨rfl, ⟨x, rfl, c0⟩, c1⟩, hB⟩ hK
    gi_wp2
    refine ⟨by simp, .inl ⟨_, _, rfl, run_takeDeferred hK, ?_⟩⟩
    have p0 := cell_kept c0 (grownBy_putObj' _ D (.deferred none)) (fun r e => by cases e; exact ⟨_, hK, rfl⟩)
    have p1 := cell_kept c1 (grownBy_putObj' _ D (.deferred none)) (fun r e => by cases e; exact ⟨_, hK, rfl⟩)
    obtain ⟨t, ht⟩ := hpre
    refine ⟨.tuple #[Value.string x, .bool true], ?_, ⟨_, _, rfl, .inl ⟨rfl, x, t, ht.symm, rfl⟩, below_fr (hB.trans (belowK_b (w := w) (Nat.le_refl _) W D _ _ (by omega) hK rfl rfl)) rfl⟩⟩
    simp [results, Try.f37, go_sem, p0, p1]
theorem Good.rowsS {L : List (List ByteArray)} {W : List (ByteArray × Int)} (h : Good L W) : ∀ l ∈ L, l.length ≤ 5000 := fun l hl => by
  obtain ⟨j, hj⟩ := List.mem_iff_getElem?.1 hl
  have := h.row hj; omega
theorem firstS_rx {w : World} {S : Nat → Prop} {b r m : Nat} {L : List (List ByteArray)} (h : RXS w S b r m L) (n : Int) :
    Calls Try.prog 37 #[.pointer (some ⟨b, 0, none⟩), .int .i64 n] w fun e W' => ∃ x ok, e = .returned (.tuple #[x, .bool ok]) ∧ FirstIsS (rowAtS L n) x ok ∧ Fr (fun _ => False) w W' :=
  let ⟨vs, W, h1, h2, h3⟩ := h
  firstS_any h1 h2.rowsS n
end Go.Proofs.Ytfcpodlbombimaa
