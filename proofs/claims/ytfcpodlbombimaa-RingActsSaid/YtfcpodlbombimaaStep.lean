/- Steps of regions that draw their order: an append, by its run. Conditions: bounds on lengths where something grows. -/
import Derived.Test.YtfcpodlbombimaaHeap
import Derived.Deep.AppendLies
namespace Go.Proofs.Ytfcpodlbombimaa
open Go.RowKit
set_option linter.unusedSimpArgs false
set_option linter.unusedVariables false
set_option linter.unusedSectionVars false
section
variable {P : Program} {ops : Array Oper} {o : Oper} {a : Act} {w : World} {K : Act → World → Prop} {Q : Exit → Act → World → Prop} {E : Prop} {v : Value} {cs : List Value} {e : TypeId} {sz : Nat}
theorem step_run {u : Value} {w1 : World} (hg : o.guard = none) (hrun : (execOp a.eval o).run P w = .ok (.value u) w1) (h : K (a.put o.dst u) w1) :
    if Region.wanted o (yielded ops a.tmps) = true then Oper.wp P o a w K Q else E := by
  have hw : Region.wanted o (yielded ops a.tmps) = true := by simp [Region.wanted, hg]
  rw [if_pos hw]
  unfold Oper.wp
  rw [hrun]
  exact h
theorem step_app (hg : o.guard = none) (s x : Operand) (T : TypeId) (ho : o.op = .call { callee := .builtin .append, args := #[s, x], argTypes := #[T, T] })
    {i : TypeInfo} {z : Value} {bytes : Nat} (hT : P.underlying T = some (.slice e)) (hi : P.info? e = some i) (hz : i.zero = some z) (hsize : i.size = sz) (hby : i.bytes = bytes)
    (hzs : z.cells.size = sz) (hsz : 0 < sz) (hs : a.eval s = v) (h : Sl w e sz v cs) (g m c : Nat) (row : List Value) (hx : a.eval x = .slice (some ⟨g, 0, none⟩) m c) {f : Nat × Nat} (hgo : ob w g = some (.cells row.toArray e f)) (hl : row.length = m * sz) (h1 : ∀ u ∈ row, u.oneCell' = true)
    (hm : 0 < m) (h63 : sliceLen v + m ≤ maxLen) (hbytes : (sliceLen v + m) * bytes ≤ 140737488355328)
    (hn : ∀ v' w', Sl w' e sz v' (cs ++ row) → Fr (fun k => v.ownBlock = some k) w w' → (v'.ownBlock = v.ownBlock ∨ ∃ k, v'.ownBlock = some k ∧ w.heap.size ≤ k) → sliceLen v' = sliceLen v + m → K (a.put o.dst v') w') :
    if Region.wanted o (yielded ops a.tmps) = true then Oper.wp P o a w K Q else E := by
  obtain ⟨v', w', hr, h2, h3, h4, h5⟩ := run_append_sl (ty := o.type) hT hi hz hsize hby hzs hsz h ⟨g, 0, none⟩ m c row hl (news_of_ob hgo) h1 hm h63 hbytes
  refine step_run hg ?_ (hn v' w' h2 h3 h4 h5)
  unfold execOp
  simp only [ho, resolve, List.map_toArray, List.map_cons, List.map_nil, hs, hx]
  show (Builtin.append_ #[T, T] o.type #[v, .slice (some ⟨g, 0, none⟩) m c] >>= fun v => pure (Next.value v)).run P w = _
  rw [Sem.run_bind, hr]
  rfl
theorem step_appsrc (hg : o.guard = none) (s x : Operand) (T : TypeId) (ho : o.op = .call { callee := .builtin .append, args := #[s, x], argTypes := #[T, T] })
    {i : TypeInfo} {z : Value} {bytes : Nat} (hT : P.underlying T = some (.slice e)) (hi : P.info? e = some i) (hz : i.zero = some z) (hsize : i.size = sz) (hby : i.bytes = bytes)
    (hzs : z.cells.size = sz) (hsz : 0 < sz) (hs : a.eval s = v) (h : Sl w e sz v cs) {y : Value} {cx : List Value} (hx : a.eval x = y) (hy : Sl w e sz y cx) (h1 : ∀ u ∈ cx, u.oneCell' = true)
    (h63 : sliceLen v + sliceLen y ≤ maxLen) (hbytes : (sliceLen v + sliceLen y) * bytes ≤ 140737488355328)
    (hn : ∀ v' w', Sl w' e sz v' (cs ++ cx) → Fr (fun k => v.ownBlock = some k) w w' → (v'.ownBlock = v.ownBlock ∨ ∃ k, v'.ownBlock = some k ∧ w.heap.size ≤ k) → sliceLen v' = sliceLen v + sliceLen y → K (a.put o.dst v') w') :
    if Region.wanted o (yielded ops a.tmps) = true then Oper.wp P o a w K Q else E := by
  obtain ⟨v', w', hr, h2, h3, h4, h5⟩ := run_append_src (ty := o.type) hT hi hz hsize hby hzs hsz h hy h1 h63 hbytes
  refine step_run hg ?_ (hn v' w' h2 h3 h4 h5)
  unfold execOp
  simp only [ho, resolve, List.map_toArray, List.map_cons, List.map_nil, hs, hx]
  show (Builtin.append_ #[T, T] o.type #[v, y] >>= fun v => pure (Next.value v)).run P w = _
  rw [Sem.run_bind, hr]
  rfl
end
end Go.Proofs.Ytfcpodlbombimaa
