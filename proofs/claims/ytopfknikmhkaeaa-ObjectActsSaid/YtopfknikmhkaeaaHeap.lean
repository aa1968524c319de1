/- What a call leaves as it was; slices as the lists of their cells; append. Conditions: bounds on lengths where something grows. -/
import Derived.Test.YtopfknikmhkaeaaMapsB
namespace Go.Proofs.Ytopfknikmhkaeaa
open Go.RowKit
set_option linter.unusedSimpArgs false
set_option linter.unusedVariables false
set_option linter.unusedSectionVars false

/-- All blocks of w but those of S are in w' as they were; the streams too. -/
structure Fr (S : Nat → Prop) (w w' : World) : Prop where
  os : w'.os = w.os
  tape : w'.tape = w.tape
  output : w'.output = w.output
  size : w.heap.size ≤ w'.heap.size
  block : ∀ k, k < w.heap.size → ¬ S k → ob w' k = ob w k
section
variable {S S2 : Nat → Prop} {w w1 w2 : World}
theorem Fr.refl (S : Nat → Prop) (w : World) : Fr S w w := ⟨rfl, rfl, rfl, Nat.le_refl _, fun _ _ _ => rfl⟩
theorem Fr.mono (h : Fr S w w1) (hs : ∀ k, k < w.heap.size → S k → S2 k) : Fr S2 w w1 := ⟨h.os, h.tape, h.output, h.size, fun k hk hn => h.block k hk (fun hk2 => hn (hs k hk hk2))⟩
theorem Fr.mono' (h : Fr S w w1) (hs : ∀ k, S k → S2 k) : Fr S2 w w1 := h.mono fun k _ hk => hs k hk
theorem Fr.step (h : Fr S w w1) (k : Fr S2 w1 w2) (hs : ∀ k, S2 k → S k ∨ w.heap.size ≤ k) : Fr S w w2 :=
  ⟨k.os.trans h.os, k.tape.trans h.tape, k.output.trans h.output, Nat.le_trans h.size k.size, fun i hi hn =>
    (k.block i (Nat.lt_of_lt_of_le hi h.size) (fun h2 => (hs i h2).elim hn (fun h3 => by omega))).trans (h.block i hi hn)⟩
theorem Fr.alloc (h : Fr S w w1) (o : Obj) : Fr S w (w1.alloc o) :=
  h.step (S2 := fun _ => False) ⟨rfl, rfl, rfl, by simp, fun k hk _ => ob_alloc w1 o k hk⟩ (fun _ h => h.elim)
theorem Fr.drew (h : Fr S w w1) : Fr S w w1.drew := ⟨h.os, h.tape, h.output, h.size, h.block⟩
theorem Fr.setCell (h : Fr S w w1) (a : Addr) (v : Value) (ha : S a.block ∨ w.heap.size ≤ a.block) : Fr S w (w1.setCell a v) :=
  h.step (S2 := fun k => k = a.block) ⟨rfl, rfl, rfl, by simp, fun k _ hn => ob_setCell w1 a v k hn⟩ (fun k hk => by rw [hk]; exact ha)
theorem Fr.putOb (h : Fr S w w1) (b : Nat) (o : Obj) (ha : S b ∨ w.heap.size ≤ b) : Fr S w (putOb w1 b o) :=
  h.step (S2 := fun k => k = b) ⟨rfl, rfl, rfl, by simp, fun k _ hn => ob_putOb_ne w1 b k o hn⟩ (fun k hk => by rw [hk]; exact ha)
theorem Fr.of_grown {row : Option Nat} (h : w.grownBy w1 row) : Fr (fun k => some k = row) w w1 := ⟨h.os, h.tape, h.output, h.size, fun k hk hn => h.block k hk hn⟩
theorem Fr.of_below (h : Below w.heap.size w w1) : Fr (fun _ => False) w w1 := ⟨h.os, h.tape, h.output, h.size, fun k hk _ => h.block k hk⟩
theorem Fr.below (h : Fr S w w1) {B : Nat} (hB : B ≤ w.heap.size) (hS : ∀ k, S k → B ≤ k) : Below B w w1 :=
  ⟨h.os, h.tape, h.output, h.size, fun k hk => h.block k (by omega) (fun h2 => by have := hS k h2; omega)⟩
theorem Fr.keep (h : Fr S w w1) {k : Nat} {o : Obj} (hn : ¬ S k) (hk : ob w k = some o) : ob w1 k = some o := (h.block k (ob_lt hk) hn).trans hk
theorem Fr.all (h : Fr S w w1) : (∀ b i, b < w.heap.size → ¬ S b → w1.cell? ⟨b, i, none⟩ = w.cell? ⟨b, i, none⟩) ∧ (∀ b i, b < w.heap.size → ¬ S b → w1.frozen? ⟨b, i, none⟩ = w.frozen? ⟨b, i, none⟩) ∧ (∀ b, b < w.heap.size → ¬ S b → ob w1 b = ob w b) :=
  ⟨fun b i hb hn => World.cell?_of_block (w := w) (h.block b hb hn), fun b i hb hn => World.frozen?_of_block (w := w) (h.block b hb hn), fun b hb hn => h.block b hb hn⟩
theorem Fr.cell (h : Fr S w w1) {a : Addr} (hn : ¬ S a.block) (hb : a.block < w.heap.size) : w1.cell? a = w.cell? a := World.cell?_of_block (w := w) (h.block a.block hb hn)
theorem Fr.frozen (h : Fr S w w1) {a : Addr} (hn : ¬ S a.block) (hb : a.block < w.heap.size) : w1.frozen? a = w.frozen? a := World.frozen?_of_block (w := w) (h.block a.block hb hn)
end

/-! ### A slice is the list of its cells -/
def sliceLen : Value → Nat
  | .slice _ n _ => n
  | _ => 0
/-- v is a slice of elements of type e, sz cells each; its cells are cs, in a row that may be written. -/
def Sl (w : World) (e : TypeId) (sz : Nat) (v : Value) (cs : List Value) : Prop :=
  (v = .slice none 0 0 ∧ cs = []) ∨ ∃ g off n cap row, v = .slice (some ⟨g, off, none⟩) n cap ∧ ob w g = some (.cells row e (0, 0)) ∧ cs.length = n * sz ∧ n ≤ cap ∧ cap ≤ maxLen ∧
    off + cap * sz ≤ row.size ∧ (row.toList.drop off).take (n * sz) = cs
section
variable {w w1 : World} {e : TypeId} {sz : Nat} {v : Value} {cs : List Value} {S : Nat → Prop}
theorem Sl.nil (w : World) (e : TypeId) (sz : Nat) : Sl w e sz (.slice none 0 0) [] := .inl ⟨rfl, rfl⟩
theorem Sl.len (h : Sl w e sz v cs) : cs.length = sliceLen v * sz := by
  rcases h with ⟨rfl, rfl⟩ | ⟨g, off, n, cap, row, rfl, _, hl, _⟩
  · simp [sliceLen]
  · exact hl
theorem Sl.lt (h : Sl w e sz v cs) {k : Nat} (hk : v.ownBlock = some k) : k < w.heap.size := by
  rcases h with ⟨rfl, rfl⟩ | ⟨g, off, n, cap, row, rfl, ho, _⟩
  · cases hk
  · cases hk; exact ob_lt ho
theorem Sl.of (h : Sl w e sz v cs) (ho : ∀ k, v.ownBlock = some k → ob w1 k = ob w k) : Sl w1 e sz v cs := by
  rcases h with h | ⟨g, off, n, cap, row, rfl, h1, h2⟩
  · exact .inl h
  · exact .inr ⟨g, off, n, cap, row, rfl, (ho g rfl).trans h1, h2⟩
theorem Sl.fr (h : Sl w e sz v cs) (hf : Fr S w w1) (hn : ∀ k, v.ownBlock = some k → ¬ S k) : Sl w1 e sz v cs :=
  h.of fun k hk => hf.block k (h.lt hk) (hn k hk)
theorem Sl.alloc (h : Sl w e sz v cs) (o : Obj) : Sl (w.alloc o) e sz v cs := h.of fun k hk => ob_alloc w o k (h.lt hk)
theorem Sl.drew (h : Sl w e sz v cs) : Sl w.drew e sz v cs := h
theorem Sl.form (h : Sl w e sz v cs) (hn : cs ≠ []) : ∃ g off n cap, v = .slice (some ⟨g, off, none⟩) n cap ∧ g < w.heap.size ∧ (∀ j u, cs[j]? = some u → w.cell? ⟨g, off + j, none⟩ = some u) ∧ (∀ j, w.frozen? ⟨g, j, none⟩ = false) ∧ cs.length = n * sz := by
  rcases h with ⟨rfl, rfl⟩ | ⟨g, off, n, cap, row, rfl, ho, hl, hc, hm, hs, ht⟩
  · exact absurd rfl hn
  · refine ⟨g, off, n, cap, rfl, ob_lt ho, fun j u hu => ?_, fun j => frozen_of_ob ho j, hl⟩
    rw [cell_of_ob ho]
    rw [← ht, List.getElem?_take] at hu
    split at hu
    · simpa using hu
    · cases hu
/-- A row that was just built. -/
theorem Sl.built (w : World) (row : List Value) (n : Nat) (hl : row.length = n * sz) (hm : n ≤ maxLen) : Sl (w.alloc (.cells row.toArray e)) e sz (.slice (some ⟨w.heap.size, 0, none⟩) n n) row :=
  .inr ⟨w.heap.size, 0, n, n, row.toArray, rfl, ob_new w _, hl, Nat.le_refl _, hm, by simp [hl], by simp [← hl]⟩
def rowPut (cur : Array Value) : Nat → List Value → Array Value
  | _, [] => cur
  | o, v :: r => rowPut (cur.setIfInBounds o v) (o + 1) r
theorem rowPut_list : ∀ (vs : List Value) (o : Nat) (cur : Array Value), o + vs.length ≤ cur.size → (rowPut cur o vs).toList = cur.toList.take o ++ vs ++ cur.toList.drop (o + vs.length)
  | [], o, cur, h => by simp [rowPut]
  | v :: r, o, cur, h => by
    simp only [List.length_cons] at h
    unfold rowPut
    rw [rowPut_list r (o + 1) _ (by simp; omega)]
    have h1 : (cur.setIfInBounds o v).toList = cur.toList.set o v := by simp
    rw [h1, List.take_set, List.drop_set, if_pos (by omega)]
    have h2 : cur.toList.take (o + 1) = cur.toList.take o ++ [cur.toList[o]'(by simp; omega)] := by rw [List.take_succ_eq_append_getElem]
    rw [h2, List.set_append, if_neg (by simp; omega)]
    simp [Nat.min_eq_left (by omega : o ≤ cur.size), Nat.add_assoc, Nat.add_comm 1 r.length]
theorem ob_setCells {g : Nat} {e : TypeId} {f : Nat × Nat} : ∀ (vs : List Value) (o : Nat) (w : World) (cur : Array Value), ob w g = some (.cells cur e f) → ob (w.setCells g o vs) g = some (.cells (rowPut cur o vs) e f)
  | [], o, w, cur, h => h
  | v :: r, o, w, cur, h => by
    unfold World.setCells rowPut
    refine ob_setCells r (o + 1) _ _ ?_
    unfold ob World.setCell at *
    simp [Array.getElem?_modify, h]
theorem fr_setCells {g : Nat} : ∀ (vs : List Value) (o : Nat) (w : World), Fr (fun k => k = g) w (w.setCells g o vs)
  | [], o, w => Fr.refl _ _
  | v :: r, o, w => by
    unfold World.setCells
    exact ((Fr.refl (fun k => g = k) w).setCell ⟨g, o, none⟩ v (.inl rfl)).mono' (fun k h => h.symm) |>.step (fr_setCells r (o + 1) _) (fun k hk => .inl hk)
theorem cells_sub {row : Array Value} {off n cap sz : Nat} {cs : List Value} (hs : off + cap * sz ≤ row.size) (hn : n ≤ cap) (ht : (row.toList.drop off).take (n * sz) = cs) (news : List Value) (hroom : n * sz + news.length ≤ cap * sz) :
    ((rowPut row (off + n * sz) news).toList.drop off).take (n * sz + news.length) = cs ++ news := by
  rw [rowPut_list _ _ _ (by omega)]
  have hsz : row.toList.length = row.size := by simp
  have e1 : row.toList.take (off + n * sz) = row.toList.take off ++ cs := by
    rw [← ht, ← List.take_add]
  have hcl : cs.length = n * sz := by rw [← ht]; simp; omega
  rw [e1, List.append_assoc, List.append_assoc, List.drop_append_of_le_length (by simp; omega), List.drop_of_length_le (by simp; omega)]
  simp only [List.nil_append]
  rw [← List.append_assoc, List.take_append_of_le_length (by simp; omega), List.take_of_length_le (by simp; omega)]
end
section
variable {P : Program} {w w1 : World} {e : TypeId} {sz : Nat} {v : Value} {cs : List Value}
theorem run_append_sl {T ty : TypeId} {i : TypeInfo} {z : Value} {bytes : Nat} (hT : P.underlying T = some (.slice e)) (hi : P.info? e = some i) (hz : i.zero = some z) (hsize : i.size = sz) (hby : i.bytes = bytes)
    (hzs : z.cells.size = sz) (hsz : 0 < sz) (h : Sl w e sz v cs) (ad : Addr) (m c : Nat) (news : List Value) (hl : news.length = m * sz) (hnews : ∀ j u, news[j]? = some u → w.cell? (ad.add j) = some u) (h1 : ∀ u ∈ news, u.oneCell' = true)
    (hm : 0 < m) (h63 : sliceLen v + m ≤ maxLen) (hbytes : (sliceLen v + m) * bytes ≤ 140737488355328) :
    ∃ v' w', (Builtin.append_ #[T, T] ty #[v, .slice (some ad) m c]).run P w = .ok v' w' ∧ Sl w' e sz v' (cs ++ news) ∧ Fr (fun k => v.ownBlock = some k) w w' ∧
      (v'.ownBlock = v.ownBlock ∨ ∃ k, v'.ownBlock = some k ∧ w.heap.size ≤ k) ∧ sliceLen v' = sliceLen v + m := by
  have grown : ∀ {v' w' n}, w'.ownsRow w.heap.size e sz v' (n + m) (cs ++ news) → w.grownBy w' none → sliceLen v = n →
      Sl w' e sz v' (cs ++ news) ∧ Fr (fun k => v.ownBlock = some k) w w' ∧ (v'.ownBlock = v.ownBlock ∨ ∃ k, v'.ownBlock = some k ∧ w.heap.size ≤ k) ∧ sliceLen v' = sliceLen v + m := by
    intro v' w' n ho hg hn
    obtain ⟨hl', h2⟩ := ho
    rcases h2 with ⟨_, h0⟩ | ⟨g, cap, cur, rfl, hb, hgo, hnc, hcm, hcs, htk⟩
    · omega
    · refine ⟨.inr ⟨g, 0, n + m, cap, cur, rfl, hgo, hl', hnc, hcm, by omega, by simpa using htk⟩, ?_, .inr ⟨g, rfl, hb⟩, by rw [hn]; rfl⟩
      exact (Fr.of_grown hg).mono (fun k _ h => by cases h)
  rcases h with ⟨rfl, rfl⟩ | ⟨g, off, n, cap, row, rfl, ho, hlen, hnc, hcm, hs, ht⟩
  · simp only [sliceLen, Nat.zero_add] at h63 hbytes
    obtain ⟨v', w', hr, ho, hg, _⟩ := run_append_own (P := P) w w.heap.size T ty e i z sz bytes hT hi hz hsize hby hzs hsz (.slice none 0 0) 0 [] (World.ownsRow_nil w _ e sz) ad m c news hl hnews h1 (by omega) (by simpa using hbytes) (Nat.le_refl _)
    exact ⟨v', w', hr, grown ho hg rfl⟩
  · simp only [sliceLen] at h63 hbytes
    by_cases hroom : n + m ≤ cap
    · subst hsize
      have hms : n * i.size + news.length ≤ cap * i.size := by rw [hl, ← Nat.add_mul]; exact Nat.mul_le_mul_right _ hroom
      have hr := run_append_room_cells (P := P) w T ty e i hT hi g off n cap ad m c news hl hnews h1 hroom
        (fun j hj => by rw [cell_of_ob ho]; simp; omega) (fun j hj => frozen_of_ob ho _)
      refine ⟨_, _, hr, .inr ⟨g, off, n + m, cap, _, rfl, ob_setCells _ _ w _ ho, ?_, hroom, hcm, ?_, ?_⟩, ?_, .inl rfl, rfl⟩
      · rw [List.length_append, hlen, hl, Nat.add_mul]
      · have : (rowPut row (off + n * i.size) news).size = row.size := by
          have := congrArg List.length (rowPut_list news (off + n * i.size) row (by omega))
          simp at this
          omega
        rw [this]; exact hs
      · rw [Nat.add_mul, ← hl]
        exact cells_sub hs hnc ht news hms
      · exact (fr_setCells _ _ w).mono (fun k _ h => by rw [h]; rfl)
    · obtain ⟨v', w', hr, ho', hg⟩ := run_append_arg_grows (P := P) w T ty e i z sz bytes hT hi hz hsize hby hzs hsz ⟨g, off, none⟩ n cap cs hlen (fun j u hu => by
        rw [Addr.add_lit, cell_of_ob ho]
        rw [← ht, List.getElem?_take] at hu
        split at hu
        · simpa using hu
        · cases hu) ad m c news hl hnews (by omega) h63 hbytes
      exact ⟨v', w', hr, grown ho' hg rfl⟩
theorem news_of_ob {g : Nat} {row : List Value} {f : Nat × Nat} (h : ob w g = some (.cells row.toArray e f)) : ∀ j u, row[j]? = some u → w.cell? ((⟨g, 0, none⟩ : Addr).add j) = some u := fun j u hu => by
  rw [Addr.add_lit, cell_of_ob h]
  simpa using hu
section
variable {ops : Array Oper} {Q : Exit → Act → World → Prop} {a : Act} {rest : List Oper} {o : Oper}
/-- append of a row that was just built. -/
theorem wpList_app (hg : o.guard = none) (s x : Operand) (T : TypeId) (ho : o.op = .call { callee := .builtin .append, args := #[s, x], argTypes := #[T, T] })
    {i : TypeInfo} {z : Value} {bytes : Nat} (hT : P.underlying T = some (.slice e)) (hi : P.info? e = some i) (hz : i.zero = some z) (hsize : i.size = sz) (hby : i.bytes = bytes)
    (hzs : z.cells.size = sz) (hsz : 0 < sz) (hs : a.eval s = v) (h : Sl w e sz v cs) (g m c : Nat) (row : List Value) (hx : a.eval x = .slice (some ⟨g, 0, none⟩) m c) {f : Nat × Nat} (hgo : ob w g = some (.cells row.toArray e f))
    (hl : row.length = m * sz) (h1 : ∀ u ∈ row, u.oneCell' = true) (hm : 0 < m) (h63 : sliceLen v + m ≤ maxLen) (hbytes : (sliceLen v + m) * bytes ≤ 140737488355328)
    (hn : ∀ v' w', Sl w' e sz v' (cs ++ row) → Fr (fun k => v.ownBlock = some k) w w' → (v'.ownBlock = v.ownBlock ∨ ∃ k, v'.ownBlock = some k ∧ w.heap.size ≤ k) → sliceLen v' = sliceLen v + m → wpList P ops Q rest (a.put o.dst v') w') :
    wpList P ops Q (o :: rest) a w := by
  obtain ⟨v', w', hr, h2, h3, h4, h5⟩ := run_append_sl (ty := o.type) hT hi hz hsize hby hzs hsz h ⟨g, 0, none⟩ m c row hl (news_of_ob hgo) h1 hm h63 hbytes
  refine wpList_ran hg ?_ (hn v' w' h2 h3 h4 h5)
  unfold execOp
  simp only [ho, resolve, List.map_toArray, List.map_cons, List.map_nil, hs, hx]
  show (Builtin.append_ #[T, T] o.type #[v, .slice (some ⟨g, 0, none⟩) m c] >>= fun v => pure (Next.value v)).run P w = _
  rw [Sem.run_bind, hr]
  rfl
end
theorem run_append_zero {T ty : TypeId} {i : TypeInfo} (hT : P.underlying T = some (.slice e)) (hi : P.info? e = some i) (ao : Option Addr) (n cap : Nat) (bo : Option Addr) (c : Nat) (hn : n ≤ cap) :
    (Builtin.append_ #[T, T] ty #[.slice ao n cap, .slice bo 0 c]).run P w = .ok (.slice ao n cap) w := by
  cases ao <;> cases bo <;> simp [Builtin.append_, run_underlying hT, sizeOf, typeInfo, hi, Builtin.lenOf, hn, Builtin.firstCells, loadCells, loadCellsFrom, storeCells, go_sem]
/-- append of another slice. -/
theorem run_append_src {T ty : TypeId} {i : TypeInfo} {z : Value} {bytes : Nat} (hT : P.underlying T = some (.slice e)) (hi : P.info? e = some i) (hz : i.zero = some z) (hsize : i.size = sz) (hby : i.bytes = bytes)
    (hzs : z.cells.size = sz) (hsz : 0 < sz) (h : Sl w e sz v cs) {x : Value} {cx : List Value} (hx : Sl w e sz x cx) (h1 : ∀ u ∈ cx, u.oneCell' = true)
    (h63 : sliceLen v + sliceLen x ≤ maxLen) (hbytes : (sliceLen v + sliceLen x) * bytes ≤ 140737488355328) :
    ∃ v' w', (Builtin.append_ #[T, T] ty #[v, x]).run P w = .ok v' w' ∧ Sl w' e sz v' (cs ++ cx) ∧ Fr (fun k => v.ownBlock = some k) w w' ∧
      (v'.ownBlock = v.ownBlock ∨ ∃ k, v'.ownBlock = some k ∧ w.heap.size ≤ k) ∧ sliceLen v' = sliceLen v + sliceLen x := by
  by_cases hm : sliceLen x = 0
  · have hcx : cx = [] := List.eq_nil_of_length_eq_zero (by rw [hx.len, hm]; simp)
    subst hcx
    refine ⟨v, w, ?_, by simpa using h, Fr.refl _ _, .inl rfl, by omega⟩
    have hv : ∃ ao n cap, v = .slice ao n cap ∧ n ≤ cap := by
      rcases h with ⟨rfl, _⟩ | ⟨g, off, n, cap, row, rfl, _, _, hnc, _⟩
      · exact ⟨none, 0, 0, rfl, Nat.le_refl _⟩
      · exact ⟨_, n, cap, rfl, hnc⟩
    have hxv : ∃ bo c, x = .slice bo 0 c := by
      rcases hx with ⟨rfl, _⟩ | ⟨g, off, n, cap, row, rfl, _⟩
      · exact ⟨none, 0, rfl⟩
      · simp only [sliceLen] at hm; subst hm; exact ⟨_, cap, rfl⟩
    obtain ⟨ao, n, cap, rfl, hnc⟩ := hv
    obtain ⟨bo, c, rfl⟩ := hxv
    exact run_append_zero hT hi ao n cap bo c hnc
  · have hne : cx ≠ [] := fun e => by
      subst e
      have := hx.len
      rcases Nat.mul_eq_zero.1 this.symm with h | h <;> omega
    obtain ⟨g, off, n, cap, rfl, _, hc, _, hl⟩ := hx.form hne
    simp only [sliceLen] at hm h63 hbytes ⊢
    exact run_append_sl hT hi hz hsize hby hzs hsz h ⟨g, off, none⟩ n cap cx hl (fun j u hu => by rw [Addr.add_lit]; exact hc j u hu) h1 (by omega) h63 hbytes
section
variable {ops : Array Oper} {Q : Exit → Act → World → Prop} {a : Act} {rest : List Oper} {o : Oper}
theorem wpList_appsrc (hg : o.guard = none) (s x : Operand) (T : TypeId) (ho : o.op = .call { callee := .builtin .append, args := #[s, x], argTypes := #[T, T] })
    {i : TypeInfo} {z : Value} {bytes : Nat} (hT : P.underlying T = some (.slice e)) (hi : P.info? e = some i) (hz : i.zero = some z) (hsize : i.size = sz) (hby : i.bytes = bytes)
    (hzs : z.cells.size = sz) (hsz : 0 < sz) (hs : a.eval s = v) (h : Sl w e sz v cs) {y : Value} {cx : List Value} (hx : a.eval x = y) (hy : Sl w e sz y cx) (h1 : ∀ u ∈ cx, u.oneCell' = true)
    (h63 : sliceLen v + sliceLen y ≤ maxLen) (hbytes : (sliceLen v + sliceLen y) * bytes ≤ 140737488355328)
    (hn : ∀ v' w', Sl w' e sz v' (cs ++ cx) → Fr (fun k => v.ownBlock = some k) w w' → (v'.ownBlock = v.ownBlock ∨ ∃ k, v'.ownBlock = some k ∧ w.heap.size ≤ k) → sliceLen v' = sliceLen v + sliceLen y → wpList P ops Q rest (a.put o.dst v') w') :
    wpList P ops Q (o :: rest) a w := by
  obtain ⟨v', w', hr, h2, h3, h4, h5⟩ := run_append_src (ty := o.type) hT hi hz hsize hby hzs hsz h hy h1 h63 hbytes
  refine wpList_ran hg ?_ (hn v' w' h2 h3 h4 h5)
  unfold execOp
  simp only [ho, resolve, List.map_toArray, List.map_cons, List.map_nil, hs, hx]
  show (Builtin.append_ #[T, T] o.type #[v, y] >>= fun v => pure (Next.value v)).run P w = _
  rw [Sem.run_bind, hr]
  rfl
end
end
end Go.Proofs.Ytopfknikmhkaeaa
