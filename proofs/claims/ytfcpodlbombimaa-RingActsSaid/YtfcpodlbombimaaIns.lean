/- copy and append over rows of whatever width. Conditions: bounds on lengths. -/
import Derived.Test.YtfcpodlbombimaaOpen
import Derived.Test.YtfcpodlbombimaaSlB
import Derived.Laws.IdiomCopy
import Derived.Lib.AppendZerosOnto
import Derived.Lib.Overlaps
import Derived.Laws.Externs
namespace Go.Proofs.Ytfcpodlbombimaa
open Go.RowKit
set_option linter.unusedSimpArgs false
set_option linter.unusedVariables false
section
variable {P : Program} {w w1 : World} {e : TypeId} {sz : Nat} {v : Value} {cs : List Value}
theorem run_copy_sz (w : World) (dT sT ty elem : TypeId) (b o dLen dCap : Nat) (a : Addr) (sLen sCap : Nat) (cs : List Value)
    (hu : P.underlying dT = some (.slice elem)) (hs : (P.info? elem).map (·.size) = some sz) (m : Nat) (hm : Nat.min sLen dLen = m) (hn : cs.length = m * sz)
    (hsrc : ∀ j v, cs[j]? = some v → w.cell? (a.add j) = some v) (hc : ∀ j, j < cs.length → (w.cell? ⟨b, o + j, none⟩).isSome = true) (hf : ∀ j, j < cs.length → w.frozen? ⟨b, o + j, none⟩ = false) (h1 : ∀ v ∈ cs, v.oneCell' = true) :
    (Builtin.copy_ #[dT, sT] ty #[.slice (some ⟨b, o, none⟩) dLen dCap, .slice (some a) sLen sCap]).run P w = .ok (goInt m) (w.setCells b o cs) := by
  have hl := run_loadCells_list (P := P) w a cs hsrc
  have hst := run_storeCells_cells (P := P) b o cs 0 w (by simpa using hc) (by simpa using hf) h1
  cases hq : P.info? elem with
  | none => simp [hq] at hs
  | some i =>
    have hi : i.size = sz := by simpa [hq] using hs
    simp [Builtin.copy_, run_underlying hu, Builtin.lenOf, Builtin.firstCells, sizeOf, typeInfo, hq, hi, hm, ← hn, hl, hst]
/-- append of a slice that is only read. -/
theorem run_append_rd {T ty : TypeId} {i : TypeInfo} {z : Value} {bytes : Nat} (hT : P.underlying T = some (.slice e)) (hi : P.info? e = some i) (hz : i.zero = some z) (hsize : i.size = sz) (hby : i.bytes = bytes)
    (hzs : z.cells.size = sz) (hsz : 0 < sz) (h : Sl w e sz v cs) {x : Value} {cx : List Value} (hx : Rd w sz x cx) (h1 : ∀ u ∈ cx, u.oneCell' = true)
    (h63 : sliceLen v + sliceLen x ≤ maxLen) (hbytes : (sliceLen v + sliceLen x) * bytes ≤ 140737488355328) :
    ∃ v' w', (Builtin.append_ #[T, T] ty #[v, x]).run P w = .ok v' w' ∧ Sl w' e sz v' (cs ++ cx) ∧ Fr (fun k => v.ownBlock = some k) w w' ∧
      (v'.ownBlock = v.ownBlock ∨ ∃ k, v'.ownBlock = some k ∧ w.heap.size ≤ k) ∧ sliceLen v' = sliceLen v + sliceLen x := by
  by_cases hm : sliceLen x = 0
  · have hcx : cx = [] := List.eq_nil_of_length_eq_zero (by rw [hx.len, hm]; simp)
    subst hcx
    refine ⟨v, w, ?_, by simpa using h, Fr.refl _ _, .inl rfl, by omega⟩
    have hv : ∃ ao n cap, v = .slice ao n cap ∧ n ≤ cap := by
      rcases h with ⟨rfl, _⟩ | ⟨g, off, n, cap, row, rfl, _, _, hnc, _⟩
      · exact ⟨none, 0, 0, rfl, Nat.le_refl _⟩
      · exact ⟨_, n, cap, rfl, hnc⟩
    have hxv : ∃ bo c, x = .slice bo 0 c := by
      rcases hx with ⟨rfl, _⟩ | ⟨a, n, cap, rfl, _⟩
      · exact ⟨none, 0, rfl⟩
      · simp only [sliceLen] at hm; subst hm; exact ⟨_, cap, rfl⟩
    obtain ⟨ao, n, cap, rfl, hnc⟩ := hv
    obtain ⟨bo, c, rfl⟩ := hxv
    exact run_append_zero hT hi ao n cap bo c hnc
  · have hne : cx ≠ [] := fun e => by
      subst e
      have := hx.len
      rcases Nat.mul_eq_zero.1 this.symm with h | h <;> omega
    obtain ⟨g, off, n, cap, rfl, _, hc, hl⟩ := hx.form hne
    simp only [sliceLen] at hm h63 hbytes ⊢
    exact run_append_sl hT hi hz hsize hby hzs hsz h ⟨g, off, none⟩ n cap cx hl (fun j u hu => by rw [Addr.add_lit]; exact hc j u hu) h1 (by omega) h63 hbytes
section
variable {ops : Array Oper} {Q : Exit → Act → World → Prop} {a : Act} {rest : List Oper} {o : Oper}
theorem wpList_apprd (hg : o.guard = none) (s x : Operand) (T : TypeId) (ho : o.op = .call { callee := .builtin .append, args := #[s, x], argTypes := #[T, T] })
    {i : TypeInfo} {z : Value} {bytes : Nat} (hT : P.underlying T = some (.slice e)) (hi : P.info? e = some i) (hz : i.zero = some z) (hsize : i.size = sz) (hby : i.bytes = bytes)
    (hzs : z.cells.size = sz) (hsz : 0 < sz) (hs : a.eval s = v) (h : Sl w e sz v cs) {y : Value} {cx : List Value} (hx : a.eval x = y) (hy : Rd w sz y cx) (h1 : ∀ u ∈ cx, u.oneCell' = true)
    (h63 : sliceLen v + sliceLen y ≤ maxLen) (hbytes : (sliceLen v + sliceLen y) * bytes ≤ 140737488355328)
    (hn : ∀ v' w', Sl w' e sz v' (cs ++ cx) → Fr (fun k => v.ownBlock = some k) w w' → (v'.ownBlock = v.ownBlock ∨ ∃ k, v'.ownBlock = some k ∧ w.heap.size ≤ k) → sliceLen v' = sliceLen v + sliceLen y → wpList P ops Q rest (a.put o.dst v') w') :
    wpList P ops Q (o :: rest) a w := by
  obtain ⟨v', w', hr, h2, h3, h4, h5⟩ := run_append_rd (ty := o.type) hT hi hz hsize hby hzs hsz h hy h1 h63 hbytes
  refine wpList_ran hg ?_ (hn v' w' h2 h3 h4 h5)
  unfold execOp
  simp only [ho, resolve, List.map_toArray, List.map_cons, List.map_nil, hs, hx]
  show (Builtin.append_ #[T, T] o.type #[v, y] >>= fun v => pure (Next.value v)).run P w = _
  rw [Sem.run_bind, hr]
  rfl
theorem wpList_copyrun (hg : o.guard = none) (d s : Operand) (t t' : TypeId) (ho : o.op = .call { callee := .builtin .copy, args := #[d, s], argTypes := #[t, t'] }) {v u : Value} (hd : a.eval d = v) (hs : a.eval s = u) {v' : Value} {w' : World}
    (hr : (Builtin.copy_ #[t, t'] o.type #[v, u]).run P w = .ok v' w') (hn : wpList P ops Q rest (a.put o.dst v') w') : wpList P ops Q (o :: rest) a w := by
  refine wpList_ran hg ?_ hn
  unfold execOp
  simp only [ho, resolve, List.map_toArray, List.map_cons, List.map_nil, hd, hs]
  show (Builtin.copy_ #[t, t'] o.type #[v, u] >>= fun v => pure (Next.value v)).run P w = _
  rw [Sem.run_bind, hr]
  rfl
theorem wpList_apprun (hg : o.guard = none) (d s : Operand) (t t' : TypeId) (ho : o.op = .call { callee := .builtin .append, args := #[d, s], argTypes := #[t, t'] }) {v u : Value} (hd : a.eval d = v) (hs : a.eval s = u) {v' : Value} {w' : World}
    (hr : (Builtin.append_ #[t, t'] o.type #[v, u]).run P w = .ok v' w') (hn : wpList P ops Q rest (a.put o.dst v') w') : wpList P ops Q (o :: rest) a w := by
  refine wpList_ran hg ?_ hn
  unfold execOp
  simp only [ho, resolve, List.map_toArray, List.map_cons, List.map_nil, hd, hs]
  show (Builtin.append_ #[t, t'] o.type #[v, u] >>= fun v => pure (Next.value v)).run P w = _
  rw [Sem.run_bind, hr]
  rfl
end
theorem rowPut_size (cur : Array Value) (o : Nat) (vs : List Value) (h : o + vs.length ≤ cur.size) : (rowPut cur o vs).size = cur.size := by
  have := congrArg List.length (rowPut_list vs o cur h)
  simp only [Array.length_toList, List.length_append, List.length_take, List.length_drop] at this
  omega
/-- A row written into twice: what stood from p on goes behind, then something new is put between. -/
theorem shift_row {row : Array Value} {cs vs : List Value} {off p : Nat} (hp : p ≤ cs.length) (hs : off + (cs.length + vs.length) ≤ row.size) (ht : (row.toList.drop off).take cs.length = cs) :
    ((rowPut (rowPut row (off + (p + vs.length)) (cs.drop p)) (off + p) vs).toList.drop off).take (cs.length + vs.length) = cs.take p ++ vs ++ cs.drop p := by
  have hd : (cs.drop p).length = cs.length - p := List.length_drop
  have h1 : off + (p + vs.length) + (cs.drop p).length ≤ row.size := by omega
  have hz := rowPut_size row (off + (p + vs.length)) (cs.drop p) h1
  have e1 : off + (p + vs.length) = (off + p) + vs.length := by omega
  rw [rowPut_list vs (off + p) _ (by rw [hz]; omega), rowPut_list (cs.drop p) _ row h1]
  have hrs : row.toList.length = row.size := by simp
  have hcs : ∀ i, i < cs.length → cs[i]? = row.toList[off + i]? := fun i hi => by
    conv => lhs; rw [← ht]
    rw [List.getElem?_take, if_pos hi, List.getElem?_drop]
  apply List.ext_getElem?
  intro i
  simp only [List.getElem?_take, List.getElem?_drop, List.getElem?_append, List.length_take, List.length_append, List.length_drop, Array.length_toList]
  have m1 : min (off + (p + vs.length)) row.size = off + p + vs.length := by omega
  have m2 : min (off + p) (off + p + vs.length + (cs.length - p) + (row.size - (off + (p + vs.length) + (cs.length - p)))) = off + p := by omega
  have m3 : min p cs.length = p := by omega
  rw [m1, m2, m3]
  by_cases h2 : i < cs.length + vs.length
  · rw [if_pos h2]
    by_cases h3 : i < p
    · rw [if_pos (by omega : off + i < off + p + vs.length), if_pos (by omega : off + i < off + p), if_pos (by omega), if_pos (by omega), if_pos (by omega), if_pos (by omega), hcs i (by omega)]
      simp only [if_pos h3, if_pos (show i < p + vs.length by omega)]
    · by_cases h4 : i < p + vs.length
      · rw [if_pos (by omega : off + i < off + p + vs.length), if_neg (by omega : ¬ off + i < off + p), if_pos h4, if_neg h3]
        congr 1; omega
      · rw [if_neg (by omega : ¬ off + i < off + p + vs.length), if_pos (by omega), if_neg (by omega), if_neg h4]
        congr 1; omega
  · rw [if_neg h2, if_neg (by omega)]
    symm; apply List.getElem?_eq_none; omega
theorem grow_row {row : Array Value} {a vs b : List Value} (h : row.toList.take a.length = a) (hs : a.length + vs.length + b.length ≤ row.size) :
    (rowPut (rowPut row a.length vs) (a.length + vs.length) b).toList.take (a.length + vs.length + b.length) = a ++ vs ++ b := by
  have hz := rowPut_size row a.length vs (by omega)
  rw [rowPut_list b _ _ (by rw [hz]; omega), rowPut_list vs _ row (by omega), h]
  have e1 : (a ++ vs ++ row.toList.drop (a.length + vs.length)).take (a.length + vs.length) = a ++ vs := by
    rw [← List.length_append, List.take_left]
  rw [e1]
  have e2 : a.length + vs.length + b.length = (a ++ vs ++ b).length := by simp [Nat.add_assoc]
  rw [e2, List.take_left]
theorem shape_of_ob {b : Nat} {row : Array Value} {f : Nat × Nat} (h : ob w b = some (.cells row e f)) : w.shape? b = some (e, row.size) := by
  unfold World.shape?
  unfold ob at h
  rw [h]
end
end Go.Proofs.Ytfcpodlbombimaa
