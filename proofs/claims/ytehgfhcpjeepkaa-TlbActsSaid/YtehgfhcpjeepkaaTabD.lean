/- tlb.Table in memory: what is flushed. -/
import Derived.Test.YtehgfhcpjeepkaaTabC
import Derived.Test.YtehgfhcpjeepkaaCanonH
namespace Go.Proofs.Ytehgfhcpjeepkaa
open Go.RowKit
set_option linter.unusedSimpArgs false
set_option linter.unusedVariables false
theorem cfPut (args : Array Value) (W : World) : (callFunc 24 args).run Try.prog W = .ok (.enter 24 args) W := by kernel_rfl
theorem cfAsid (args : Array Value) (W : World) : (callFunc 26 args).run Try.prog W = .ok (.enter 26 args) W := by kernel_rfl
theorem cfAll (args : Array Value) (W : World) : (callFunc 27 args).run Try.prog W = .ok (.enter 27 args) W := by kernel_rfl
theorem cfFlush (args : Array Value) (W : World) : (callFunc 28 args).run Try.prog W = .ok (.enter 28 args) W := by kernel_rfl
theorem soAsid (q : Nat) (x : Int) (W : World) (k : K2) (hq : W.cell? ⟨q, 0, none⟩ = some (.int .i64 x)) (hl : q < W.heap.size) :
    Calls Try.prog 26 (#[.agg #[.int .i64 k.1, .int .i64 k.2]] ++ #[.pointer (some ⟨q, 0, none⟩)]) W fun e w' => e = .returned (.bool (k.1 == x)) ∧ Fr (fun _ => False) W w' := by
  go_enter Try.func26, Try.ntmps26
  go_wp2
  go_ret
  exact ⟨rfl, (Fr.refl _ _).alloc _⟩
theorem soAll (W : World) (k : K2) : Calls Try.prog 27 (#[.agg #[.int .i64 k.1, .int .i64 k.2]] ++ #[]) W fun e w' => e = .returned (.bool true) ∧ Fr (fun _ => False) W w' := by
  go_enter Try.func27, Try.ntmps27
  go_wp2
  go_ret
  exact ⟨rfl, (Fr.refl _ _).alloc _⟩
theorem soFlush (q : Nat) (x : K2) (W : World) (k : K2) (hq : W.cell? ⟨q, 0, none⟩ = some (.int .i64 x.1)) (hq1 : W.cell? ⟨q, 1, none⟩ = some (.int .i64 x.2)) (hl : q < W.heap.size) :
    Calls Try.prog 28 (#[.agg #[.int .i64 k.1, .int .i64 k.2]] ++ #[.pointer (some ⟨q, 0, none⟩)]) W fun e w' => e = .returned (.bool (k2eq k.1 k.2 x.1 x.2)) ∧ Fr (fun _ => False) W w' := by
  go_enter Try.func28, Try.ntmps28
  go_wp2
  go_ret
  exact ⟨rfl, (Fr.refl _ _).alloc _⟩
theorem soPut (q b g off N C : Nat) (x : K2) (W : World) (k : K2) (hq : W.cell? ⟨q, 0, none⟩ = some (.pointer (some ⟨b, 0, none⟩))) (hb : W.cell? ⟨b, 1, none⟩ = some (.slice (some ⟨g, off, none⟩) N C)) (hN : 0 < N)
    (h0 : W.cell? ⟨g, off, none⟩ = some (.int .i64 x.1)) (h1 : W.cell? ⟨g, off + 1, none⟩ = some (.int .i64 x.2)) (hlq : q < W.heap.size) (hlb : b < W.heap.size) (hlg : g < W.heap.size) :
    Calls Try.prog 24 (#[.agg #[.int .i64 k.1, .int .i64 k.2]] ++ #[.pointer (some ⟨q, 0, none⟩)]) W fun e w' => e = .returned (.bool (k2eq k.1 k.2 x.1 x.2)) ∧ Fr (fun _ => False) W w' := by
  go_enter Try.func24, Try.ntmps24
  go_wp2
  refine wp_region_canon [0, 1, 2, 3, 4, 5, 6, 7, 8] (by kernel_rfl) (by kernel_rfl) (fun K hK => ?_)
  simp only [List.map_cons, List.map_nil, List.getD_cons_succ, List.getD_cons_zero]
  go_wp2
  refine hK _ _ (by kernel_rfl) ?_
  clear hK K
  go_wp2
  go_ret
  exact ⟨rfl, ((Fr.refl _ _).alloc _).drew⟩
/-- What a flush leaves behind. -/
def Flushed (w : World) (b : Nat) (n : Int) (m : Nat) (l : List (K2 × K2)) (w' : World) : Prop :=
  ∃ kv', Tab w' b n kv' m l ∧ Fr (fun k => k = b ∨ k = m) w w' ∧ ∀ k, kv'.ownBlock = some k → w.heap.size ≤ k
section
variable {w : World} {b : Nat} {n : Int} {kv : Value} {m : Nat} {l : List (K2 × K2)}
theorem flushAsid_any (h : Tab w b n kv m l) (hnd : (l.map (·.1)).Nodup) (hl : l.length ≤ 1000000) (x : Int) :
    Calls Try.prog 11 #[.pointer (some ⟨b, 0, none⟩), .int .i64 x] w fun e w' =>
      e = .returned (.int .i64 (l.length - (l.filter (fun y => !(y.1.1 == x))).length)) ∧ Flushed w b n m (l.filter (fun y => !(y.1.1 == x))) w' := by
  go_enter Try.func11, Try.ntmps11
  go_wp2_with fail
  have h' : Tab (w.alloc (.cells #[.int .i64 x] 3)) b n kv m l := h.of fun k _ hk => ob_alloc _ _ _ hk
  refine (drop_any h' hnd hl _ _ (fun k => k.1 == x) cfAsid (fun W k hW => soAsid w.heap.size x W k ?_ ?_)).mono ?_
  · rw [hW.cell (by show w.heap.size ≠ m; have := h.mlt; omega) (by simp)]; exact cell_of_ob (ob_new w _) 0
  · have := hW.size; simp at this; omega
  rintro e w1 ⟨kv', rfl, ht, hf, ho⟩
  go_wp2
  go_ret
  exact ⟨rfl, kv', ht, ((Fr.refl _ w).alloc _).step hf (fun k hk => .inl hk), fun k hk => by have := ho k hk; simp at this; omega⟩
theorem flushAll_any (h : Tab w b n kv m l) (hnd : (l.map (·.1)).Nodup) (hl : l.length ≤ 1000000) :
    Calls Try.prog 14 #[.pointer (some ⟨b, 0, none⟩)] w fun e w' =>
      e = .returned (.int .i64 l.length) ∧ Flushed w b n m [] w' := by
  go_enter Try.func14, Try.ntmps14
  go_wp2_with fail
  refine (drop_any h hnd hl _ _ (fun k => true) cfAll (fun W k hW => soAll W k)).mono ?_
  rintro e w1 ⟨kv', rfl, ht, hf, ho⟩
  have hnil : l.filter (fun x => !true) = [] := by simp
  simp only [hnil] at ht
  go_wp2
  go_ret
  have hnil2 : l.filter (fun x => false) = [] := by simp
  exact ⟨by simp [hnil2], kv', ht, hf, ho⟩
theorem flush_any (h : Tab w b n kv m l) (hnd : (l.map (·.1)).Nodup) (hl : l.length ≤ 1000000) (x : K2) :
    Calls Try.prog 17 #[.pointer (some ⟨b, 0, none⟩), .agg #[.int .i64 x.1, .int .i64 x.2]] w fun e w' =>
      e = .returned (.bool (decide ((0 : Int) < l.length - (l.filter (fun y => !(k2eq y.1.1 y.1.2 x.1 x.2))).length))) ∧ Flushed w b n m (l.filter (fun y => !(k2eq y.1.1 y.1.2 x.1 x.2))) w' := by
  go_enter Try.func17, Try.ntmps17
  go_wp2_with fail
  have h' : Tab (w.alloc (.cells #[.int .i64 x.1, .int .i64 x.2] 27)) b n kv m l := h.of fun k _ hk => ob_alloc _ _ _ hk
  refine (drop_any h' hnd hl _ _ (fun k => k2eq k.1 k.2 x.1 x.2) cfFlush (fun W k hW => soFlush w.heap.size x W k ?_ ?_ ?_)).mono ?_
  · rw [hW.cell (by show w.heap.size ≠ m; have := h.mlt; omega) (by simp)]; exact cell_of_ob (ob_new w _) 0
  · rw [hW.cell (by show w.heap.size ≠ m; have := h.mlt; omega) (by simp)]; exact cell_of_ob (ob_new w _) 1
  · have := hW.size; simp at this; omega
  rintro e w1 ⟨kv', rfl, ht, hf, ho⟩
  go_wp2
  go_ret
  exact ⟨rfl, kv', ht, ((Fr.refl _ w).alloc _).step hf (fun k hk => .inl hk), fun k hk => by have := ho k hk; simp at this; omega⟩
end
end Go.Proofs.Ytehgfhcpjeepkaa
