/- pantrylaw16.act: one act on a map. Conditions: at most 390 entries, right. -/
import Derived.Test.YtopglbkcciigbaaVmE
namespace Go.Proofs.Ytopglbkcciigbaa
open Go.RowKit
set_option linter.unusedSimpArgs false
set_option linter.unusedVariables false
attribute [local go_sem] Oper.semAt_some
def actC (a : VAct) : List Value := [.int .i64 a.kd, .int .i64 a.lo, .int .i64 a.pg, .int .i64 a.hw] ++ ent a.x ++ [.bool a.on]
def ActOut (b : Nat) (v : Value) (l : List Ent) (a : VAct) (w : World) (e : Ending) (w' : World) : Prop :=
  ∃ b' v' g, e = .returned (.tuple #[.pointer (some ⟨b', 0, none⟩), .int .i64 (actV l a).n, g, .int .i64 (actV l a).err]) ∧ SE w' g (actV l a).gone ∧ (∀ k, g.ownBlock = some k → w.heap.size ≤ k) ∧
    MT w' b' v' (actV l a).l ∧ ((b' = b ∧ a.kd ≠ 6) ∨ (w.heap.size ≤ b' ∧ a.kd = 6)) ∧ (∀ k, v'.ownBlock = some k → v.ownBlock = some k ∨ w.heap.size ≤ k) ∧ Fr (fun k => k = b) w w'
theorem ActOut.of {b : Nat} {v g : Value} {l : List Ent} {a : VAct} {w w1 w' : World} {R : VR} (hf : Fr (fun _ => False) w w1) (hk : a.kd ≠ 6) (hR : actV l a = R) (hs : SE w' g R.gone) (hg : ∀ k, g.ownBlock = some k → w1.heap.size ≤ k) (ho : MOut b v R.l w1 w') :
    ActOut b v l a w (.returned (.tuple #[.pointer (some ⟨b, 0, none⟩), .int .i64 R.n, g, .int .i64 R.err])) w' := by
  obtain ⟨v', h1, h2, h3⟩ := ho.late hf
  subst hR
  exact ⟨b, v', g, rfl, hs, fun k hk => Nat.le_trans hf.size (hg k hk), h1, .inl ⟨rfl, hk⟩, h2, h3⟩
theorem setV_n (l : List Ent) (lo n : Int) (ok : Bool) (may : Ent → Bool) (f : Ent → Ent) : (setV l lo n ok may f).n = 0 ∧ (setV l lo n ok may f).gone = [] := by
  unfold setV; split; exact ⟨rfl, rfl⟩; split; exact ⟨rfl, rfl⟩; split <;> exact ⟨rfl, rfl⟩
theorem unmapV_n (l : List Ent) (lo n : Int) : (unmapV l lo n).n = 0 := by unfold unmapV; split <;> rfl
theorem results_tmp4 {fn : Func} {t u v x : Tmp} (h : fn.results = #[.tmp t, .tmp u, .tmp v, .tmp x]) (tmps : Array Value) (P : Program) (w : World) :
    (results fn tmps).run P w = .ok (.tuple #[tmps.getD t undef, tmps.getD u undef, tmps.getD v undef, tmps.getD x undef]) w := by
  simp [results, h]
section
variable {w : World} {b : Nat} {v : Value} {l : List Ent}
set_option maxRecDepth 100000 in
set_option maxHeartbeats 2000000 in
theorem act0 (h : MT w b v l) (hl : l.length ≤ 390) (hr : rightB 0 l = true) (lo pg hw : Int) (x : Ent) (on : Bool) (hx : WfE x) :
    Calls Try.prog 11 #[.pointer (some ⟨b, 0, none⟩), .agg #[.int .i64 (0), .int .i64 lo, .int .i64 pg, .int .i64 hw, .int .i64 x.s, .int .i64 x.e, .int .i64 x.f, .int .i64 x.o, .bool x.sh, .int .i64 x.pr, .int .i64 x.mx, .int .i64 x.inh, .int .i64 x.adv, .bool x.wi, .bool on]] w (ActOut b v l ⟨0, lo, pg, hw, x, on⟩ w) := by
  obtain ⟨W1, hW1⟩ : ∃ W1, w.alloc (.cells #[.int .i64 (0), .int .i64 lo, .int .i64 pg, .int .i64 hw, .int .i64 x.s, .int .i64 x.e, .int .i64 x.f, .int .i64 x.o, .bool x.sh, .int .i64 x.pr, .int .i64 x.mx, .int .i64 x.inh, .int .i64 x.adv, .bool x.wi, .bool on] 30) = W1 := ⟨_, rfl⟩
  have hf1 : Fr (fun _ => False) w W1 := by rw [← hW1]; exact (Fr.refl _ _).alloc _
  have h1 := h.keep hf1
  have HF := Lib.hid hf1
  have ob1 : ob W1 w.heap.size = some (.cells (actC ⟨0, lo, pg, hw, x, on⟩).toArray 30 (0, 0)) := by rw [← hW1]; exact ob_new _ _
  have e1 := fun i => cell_of_ob ob1 i
  have r0 : W1.cell? ⟨w.heap.size, 0, none⟩ = some (.int .i64 (0)) := e1 0
  have r1 : W1.cell? ⟨w.heap.size, 1, none⟩ = some (.int .i64 lo) := e1 1
  have r2 : W1.cell? ⟨w.heap.size, 2, none⟩ = some (.int .i64 pg) := e1 2
  have r3 : W1.cell? ⟨w.heap.size, 3, none⟩ = some (.int .i64 hw) := e1 3
  have r4 : W1.cell? ⟨w.heap.size, 4, none⟩ = some (.int .i64 x.s) := e1 4
  have r5 : W1.cell? ⟨w.heap.size, 5, none⟩ = some (.int .i64 x.e) := e1 5
  have r6 : W1.cell? ⟨w.heap.size, 6, none⟩ = some (.int .i64 x.f) := e1 6
  have r7 : W1.cell? ⟨w.heap.size, 7, none⟩ = some (.int .i64 x.o) := e1 7
  have r8 : W1.cell? ⟨w.heap.size, 8, none⟩ = some (.bool x.sh) := e1 8
  have r9 : W1.cell? ⟨w.heap.size, 9, none⟩ = some (.int .i64 x.pr) := e1 9
  have r10 : W1.cell? ⟨w.heap.size, 10, none⟩ = some (.int .i64 x.mx) := e1 10
  have r11 : W1.cell? ⟨w.heap.size, 11, none⟩ = some (.int .i64 x.inh) := e1 11
  have r12 : W1.cell? ⟨w.heap.size, 12, none⟩ = some (.int .i64 x.adv) := e1 12
  have r13 : W1.cell? ⟨w.heap.size, 13, none⟩ = some (.bool x.wi) := e1 13
  have r14 : W1.cell? ⟨w.heap.size, 14, none⟩ = some (.bool on) := e1 14
  clear e1 ob1
  have hc := vmapm_any h1 hl hr lo x hx on
  have HACT := Lib.hid (show actV l ⟨0, lo, pg, hw, x, on⟩ = mapV l lo x on from rfl)
  clear hf1 h1 h hr hx
  go_enter Try.func11, Try.ntmps11
  go_wp2_with fail
  try rw [hW1]
  refine hc.mono ?_
  rintro e w2 ⟨g, rfl, hs, hg, ho⟩
  have HS := Lib.hid hs
  have HG := Lib.hid hg
  have HO := Lib.hid ho
  obtain ⟨R, hR⟩ : ∃ R, mapV l lo x on = R := ⟨_, rfl⟩
  rw [hR] at HS HO HACT ⊢
  clear hc hs hg ho hW1 hR r0 r1 r2 r3 r4 r5 r6 r7 r8 r9 r10 r11 r12 r13 r14
  go_wp2
  refine bodyPost_ret (results_tmp4 rfl _ _ _) rfl ?_
  exact ActOut.of HF.out (by simp) HACT.out HS.out (fun k hk => (HG.out k hk).1) HO.out
set_option maxRecDepth 100000 in
set_option maxHeartbeats 2000000 in
theorem act1 (h : MT w b v l) (hl : l.length ≤ 390) (hr : rightB 0 l = true) (lo pg hw : Int) (x : Ent) (on : Bool) (hx : WfE x) :
    Calls Try.prog 11 #[.pointer (some ⟨b, 0, none⟩), .agg #[.int .i64 (1), .int .i64 lo, .int .i64 pg, .int .i64 hw, .int .i64 x.s, .int .i64 x.e, .int .i64 x.f, .int .i64 x.o, .bool x.sh, .int .i64 x.pr, .int .i64 x.mx, .int .i64 x.inh, .int .i64 x.adv, .bool x.wi, .bool on]] w (ActOut b v l ⟨1, lo, pg, hw, x, on⟩ w) := by
  obtain ⟨W1, hW1⟩ : ∃ W1, w.alloc (.cells #[.int .i64 (1), .int .i64 lo, .int .i64 pg, .int .i64 hw, .int .i64 x.s, .int .i64 x.e, .int .i64 x.f, .int .i64 x.o, .bool x.sh, .int .i64 x.pr, .int .i64 x.mx, .int .i64 x.inh, .int .i64 x.adv, .bool x.wi, .bool on] 30) = W1 := ⟨_, rfl⟩
  have hf1 : Fr (fun _ => False) w W1 := by rw [← hW1]; exact (Fr.refl _ _).alloc _
  have h1 := h.keep hf1
  have HF := Lib.hid hf1
  have ob1 : ob W1 w.heap.size = some (.cells (actC ⟨1, lo, pg, hw, x, on⟩).toArray 30 (0, 0)) := by rw [← hW1]; exact ob_new _ _
  have e1 := fun i => cell_of_ob ob1 i
  have r0 : W1.cell? ⟨w.heap.size, 0, none⟩ = some (.int .i64 (1)) := e1 0
  have r1 : W1.cell? ⟨w.heap.size, 1, none⟩ = some (.int .i64 lo) := e1 1
  have r2 : W1.cell? ⟨w.heap.size, 2, none⟩ = some (.int .i64 pg) := e1 2
  have r3 : W1.cell? ⟨w.heap.size, 3, none⟩ = some (.int .i64 hw) := e1 3
  have r4 : W1.cell? ⟨w.heap.size, 4, none⟩ = some (.int .i64 x.s) := e1 4
  have r5 : W1.cell? ⟨w.heap.size, 5, none⟩ = some (.int .i64 x.e) := e1 5
  have r6 : W1.cell? ⟨w.heap.size, 6, none⟩ = some (.int .i64 x.f) := e1 6
  have r7 : W1.cell? ⟨w.heap.size, 7, none⟩ = some (.int .i64 x.o) := e1 7
  have r8 : W1.cell? ⟨w.heap.size, 8, none⟩ = some (.bool x.sh) := e1 8
  have r9 : W1.cell? ⟨w.heap.size, 9, none⟩ = some (.int .i64 x.pr) := e1 9
  have r10 : W1.cell? ⟨w.heap.size, 10, none⟩ = some (.int .i64 x.mx) := e1 10
  have r11 : W1.cell? ⟨w.heap.size, 11, none⟩ = some (.int .i64 x.inh) := e1 11
  have r12 : W1.cell? ⟨w.heap.size, 12, none⟩ = some (.int .i64 x.adv) := e1 12
  have r13 : W1.cell? ⟨w.heap.size, 13, none⟩ = some (.bool x.wi) := e1 13
  have r14 : W1.cell? ⟨w.heap.size, 14, none⟩ = some (.bool on) := e1 14
  clear e1 ob1
  have hc := vunmap_any h1 hl hr lo pg
  have HACT := Lib.hid (show actV l ⟨1, lo, pg, hw, x, on⟩ = unmapV l lo pg from rfl)
  clear hf1 h1 h hr hx
  go_enter Try.func11, Try.ntmps11
  go_wp2_with fail
  try rw [hW1]
  refine hc.mono ?_
  rintro e w2 ⟨g, rfl, hs, hg, ho⟩
  have HS := Lib.hid hs
  have HG := Lib.hid hg
  have HO := Lib.hid ho
  obtain ⟨R, hR⟩ : ∃ R, unmapV l lo pg = R := ⟨_, rfl⟩
  have hn := unmapV_n l lo pg
  rw [hR] at HS HO HACT hn ⊢
  have HN := Lib.hid hn
  clear hc hs hg ho hW1 hR hn r0 r1 r2 r3 r4 r5 r6 r7 r8 r9 r10 r11 r12 r13 r14
  go_wp2
  refine bodyPost_ret (results_tmp4 rfl _ _ _) rfl ?_
  have := ActOut.of HF.out (by simp) HACT.out HS.out (fun k hk => (HG.out k hk).1) HO.out
  rw [HN.out] at this
  exact this
set_option maxRecDepth 100000 in
set_option maxHeartbeats 2000000 in
theorem act2 (h : MT w b v l) (hl : l.length ≤ 390) (hr : rightB 0 l = true) (lo pg hw : Int) (x : Ent) (on : Bool) (hx : WfE x) :
    Calls Try.prog 11 #[.pointer (some ⟨b, 0, none⟩), .agg #[.int .i64 (2), .int .i64 lo, .int .i64 pg, .int .i64 hw, .int .i64 x.s, .int .i64 x.e, .int .i64 x.f, .int .i64 x.o, .bool x.sh, .int .i64 x.pr, .int .i64 x.mx, .int .i64 x.inh, .int .i64 x.adv, .bool x.wi, .bool on]] w (ActOut b v l ⟨2, lo, pg, hw, x, on⟩ w) := by
  obtain ⟨W1, hW1⟩ : ∃ W1, w.alloc (.cells #[.int .i64 (2), .int .i64 lo, .int .i64 pg, .int .i64 hw, .int .i64 x.s, .int .i64 x.e, .int .i64 x.f, .int .i64 x.o, .bool x.sh, .int .i64 x.pr, .int .i64 x.mx, .int .i64 x.inh, .int .i64 x.adv, .bool x.wi, .bool on] 30) = W1 := ⟨_, rfl⟩
  have hf1 : Fr (fun _ => False) w W1 := by rw [← hW1]; exact (Fr.refl _ _).alloc _
  have h1 := h.keep hf1
  have HF := Lib.hid hf1
  have ob1 : ob W1 w.heap.size = some (.cells (actC ⟨2, lo, pg, hw, x, on⟩).toArray 30 (0, 0)) := by rw [← hW1]; exact ob_new _ _
  have e1 := fun i => cell_of_ob ob1 i
  have r0 : W1.cell? ⟨w.heap.size, 0, none⟩ = some (.int .i64 (2)) := e1 0
  have r1 : W1.cell? ⟨w.heap.size, 1, none⟩ = some (.int .i64 lo) := e1 1
  have r2 : W1.cell? ⟨w.heap.size, 2, none⟩ = some (.int .i64 pg) := e1 2
  have r3 : W1.cell? ⟨w.heap.size, 3, none⟩ = some (.int .i64 hw) := e1 3
  have r4 : W1.cell? ⟨w.heap.size, 4, none⟩ = some (.int .i64 x.s) := e1 4
  have r5 : W1.cell? ⟨w.heap.size, 5, none⟩ = some (.int .i64 x.e) := e1 5
  have r6 : W1.cell? ⟨w.heap.size, 6, none⟩ = some (.int .i64 x.f) := e1 6
  have r7 : W1.cell? ⟨w.heap.size, 7, none⟩ = some (.int .i64 x.o) := e1 7
  have r8 : W1.cell? ⟨w.heap.size, 8, none⟩ = some (.bool x.sh) := e1 8
  have r9 : W1.cell? ⟨w.heap.size, 9, none⟩ = some (.int .i64 x.pr) := e1 9
  have r10 : W1.cell? ⟨w.heap.size, 10, none⟩ = some (.int .i64 x.mx) := e1 10
  have r11 : W1.cell? ⟨w.heap.size, 11, none⟩ = some (.int .i64 x.inh) := e1 11
  have r12 : W1.cell? ⟨w.heap.size, 12, none⟩ = some (.int .i64 x.adv) := e1 12
  have r13 : W1.cell? ⟨w.heap.size, 13, none⟩ = some (.bool x.wi) := e1 13
  have r14 : W1.cell? ⟨w.heap.size, 14, none⟩ = some (.bool on) := e1 14
  clear e1 ob1
  have hc := vProtect h1 hl hr lo pg hw
  have HACT := Lib.hid (show actV l ⟨2, lo, pg, hw, x, on⟩ = setV l lo pg (okP hw) (mayP hw) (prE hw) from rfl)
  clear hf1 h1 h hr hx
  go_enter Try.func11, Try.ntmps11
  go_wp2_with fail
  try rw [hW1]
  refine hc.mono ?_
  rintro e w2 ⟨rfl, ho⟩
  have HO := Lib.hid ho
  obtain ⟨R, hR⟩ : ∃ R, setV l lo pg (okP hw) (mayP hw) (prE hw) = R := ⟨_, rfl⟩
  have hn : R.n = 0 ∧ R.gone = [] := by rw [← hR]; exact setV_n _ _ _ _ _ _
  rw [hR] at HO HACT ⊢
  have HN := Lib.hid hn
  clear hc ho hW1 hR hn r0 r1 r2 r3 r4 r5 r6 r7 r8 r9 r10 r11 r12 r13 r14
  go_wp2
  refine bodyPost_ret (results_tmp4 rfl _ _ _) rfl ?_
  have := ActOut.of (g := .slice none 0 0) HF.out (by simp) HACT.out (by rw [HN.out.2]; exact Sl.nil _ _ _) (fun k hk => by cases hk) HO.out
  rw [HN.out.1] at this
  exact this
set_option maxRecDepth 100000 in
set_option maxHeartbeats 2000000 in
theorem act3 (h : MT w b v l) (hl : l.length ≤ 390) (hr : rightB 0 l = true) (lo pg hw : Int) (x : Ent) (on : Bool) (hx : WfE x) :
    Calls Try.prog 11 #[.pointer (some ⟨b, 0, none⟩), .agg #[.int .i64 (3), .int .i64 lo, .int .i64 pg, .int .i64 hw, .int .i64 x.s, .int .i64 x.e, .int .i64 x.f, .int .i64 x.o, .bool x.sh, .int .i64 x.pr, .int .i64 x.mx, .int .i64 x.inh, .int .i64 x.adv, .bool x.wi, .bool on]] w (ActOut b v l ⟨3, lo, pg, hw, x, on⟩ w) := by
  obtain ⟨W1, hW1⟩ : ∃ W1, w.alloc (.cells #[.int .i64 (3), .int .i64 lo, .int .i64 pg, .int .i64 hw, .int .i64 x.s, .int .i64 x.e, .int .i64 x.f, .int .i64 x.o, .bool x.sh, .int .i64 x.pr, .int .i64 x.mx, .int .i64 x.inh, .int .i64 x.adv, .bool x.wi, .bool on] 30) = W1 := ⟨_, rfl⟩
  have hf1 : Fr (fun _ => False) w W1 := by rw [← hW1]; exact (Fr.refl _ _).alloc _
  have h1 := h.keep hf1
  have HF := Lib.hid hf1
  have ob1 : ob W1 w.heap.size = some (.cells (actC ⟨3, lo, pg, hw, x, on⟩).toArray 30 (0, 0)) := by rw [← hW1]; exact ob_new _ _
  have e1 := fun i => cell_of_ob ob1 i
  have r0 : W1.cell? ⟨w.heap.size, 0, none⟩ = some (.int .i64 (3)) := e1 0
  have r1 : W1.cell? ⟨w.heap.size, 1, none⟩ = some (.int .i64 lo) := e1 1
  have r2 : W1.cell? ⟨w.heap.size, 2, none⟩ = some (.int .i64 pg) := e1 2
  have r3 : W1.cell? ⟨w.heap.size, 3, none⟩ = some (.int .i64 hw) := e1 3
  have r4 : W1.cell? ⟨w.heap.size, 4, none⟩ = some (.int .i64 x.s) := e1 4
  have r5 : W1.cell? ⟨w.heap.size, 5, none⟩ = some (.int .i64 x.e) := e1 5
  have r6 : W1.cell? ⟨w.heap.size, 6, none⟩ = some (.int .i64 x.f) := e1 6
  have r7 : W1.cell? ⟨w.heap.size, 7, none⟩ = some (.int .i64 x.o) := e1 7
  have r8 : W1.cell? ⟨w.heap.size, 8, none⟩ = some (.bool x.sh) := e1 8
  have r9 : W1.cell? ⟨w.heap.size, 9, none⟩ = some (.int .i64 x.pr) := e1 9
  have r10 : W1.cell? ⟨w.heap.size, 10, none⟩ = some (.int .i64 x.mx) := e1 10
  have r11 : W1.cell? ⟨w.heap.size, 11, none⟩ = some (.int .i64 x.inh) := e1 11
  have r12 : W1.cell? ⟨w.heap.size, 12, none⟩ = some (.int .i64 x.adv) := e1 12
  have r13 : W1.cell? ⟨w.heap.size, 13, none⟩ = some (.bool x.wi) := e1 13
  have r14 : W1.cell? ⟨w.heap.size, 14, none⟩ = some (.bool on) := e1 14
  clear e1 ob1
  have hc := vInherit h1 hl hr lo pg hw
  have HACT := Lib.hid (show actV l ⟨3, lo, pg, hw, x, on⟩ = setV l lo pg (okI hw) anyE (inE hw) from rfl)
  clear hf1 h1 h hr hx
  go_enter Try.func11, Try.ntmps11
  go_wp2_with fail
  try rw [hW1]
  refine hc.mono ?_
  rintro e w2 ⟨rfl, ho⟩
  have HO := Lib.hid ho
  obtain ⟨R, hR⟩ : ∃ R, setV l lo pg (okI hw) anyE (inE hw) = R := ⟨_, rfl⟩
  have hn : R.n = 0 ∧ R.gone = [] := by rw [← hR]; exact setV_n _ _ _ _ _ _
  rw [hR] at HO HACT ⊢
  have HN := Lib.hid hn
  clear hc ho hW1 hR hn r0 r1 r2 r3 r4 r5 r6 r7 r8 r9 r10 r11 r12 r13 r14
  go_wp2
  refine bodyPost_ret (results_tmp4 rfl _ _ _) rfl ?_
  have := ActOut.of (g := .slice none 0 0) HF.out (by simp) HACT.out (by rw [HN.out.2]; exact Sl.nil _ _ _) (fun k hk => by cases hk) HO.out
  rw [HN.out.1] at this
  exact this
set_option maxRecDepth 100000 in
set_option maxHeartbeats 2000000 in
theorem act4 (h : MT w b v l) (hl : l.length ≤ 390) (hr : rightB 0 l = true) (lo pg hw : Int) (x : Ent) (on : Bool) (hx : WfE x) :
    Calls Try.prog 11 #[.pointer (some ⟨b, 0, none⟩), .agg #[.int .i64 (4), .int .i64 lo, .int .i64 pg, .int .i64 hw, .int .i64 x.s, .int .i64 x.e, .int .i64 x.f, .int .i64 x.o, .bool x.sh, .int .i64 x.pr, .int .i64 x.mx, .int .i64 x.inh, .int .i64 x.adv, .bool x.wi, .bool on]] w (ActOut b v l ⟨4, lo, pg, hw, x, on⟩ w) := by
  obtain ⟨W1, hW1⟩ : ∃ W1, w.alloc (.cells #[.int .i64 (4), .int .i64 lo, .int .i64 pg, .int .i64 hw, .int .i64 x.s, .int .i64 x.e, .int .i64 x.f, .int .i64 x.o, .bool x.sh, .int .i64 x.pr, .int .i64 x.mx, .int .i64 x.inh, .int .i64 x.adv, .bool x.wi, .bool on] 30) = W1 := ⟨_, rfl⟩
  have hf1 : Fr (fun _ => False) w W1 := by rw [← hW1]; exact (Fr.refl _ _).alloc _
  have h1 := h.keep hf1
  have HF := Lib.hid hf1
  have ob1 : ob W1 w.heap.size = some (.cells (actC ⟨4, lo, pg, hw, x, on⟩).toArray 30 (0, 0)) := by rw [← hW1]; exact ob_new _ _
  have e1 := fun i => cell_of_ob ob1 i
  have r0 : W1.cell? ⟨w.heap.size, 0, none⟩ = some (.int .i64 (4)) := e1 0
  have r1 : W1.cell? ⟨w.heap.size, 1, none⟩ = some (.int .i64 lo) := e1 1
  have r2 : W1.cell? ⟨w.heap.size, 2, none⟩ = some (.int .i64 pg) := e1 2
  have r3 : W1.cell? ⟨w.heap.size, 3, none⟩ = some (.int .i64 hw) := e1 3
  have r4 : W1.cell? ⟨w.heap.size, 4, none⟩ = some (.int .i64 x.s) := e1 4
  have r5 : W1.cell? ⟨w.heap.size, 5, none⟩ = some (.int .i64 x.e) := e1 5
  have r6 : W1.cell? ⟨w.heap.size, 6, none⟩ = some (.int .i64 x.f) := e1 6
  have r7 : W1.cell? ⟨w.heap.size, 7, none⟩ = some (.int .i64 x.o) := e1 7
  have r8 : W1.cell? ⟨w.heap.size, 8, none⟩ = some (.bool x.sh) := e1 8
  have r9 : W1.cell? ⟨w.heap.size, 9, none⟩ = some (.int .i64 x.pr) := e1 9
  have r10 : W1.cell? ⟨w.heap.size, 10, none⟩ = some (.int .i64 x.mx) := e1 10
  have r11 : W1.cell? ⟨w.heap.size, 11, none⟩ = some (.int .i64 x.inh) := e1 11
  have r12 : W1.cell? ⟨w.heap.size, 12, none⟩ = some (.int .i64 x.adv) := e1 12
  have r13 : W1.cell? ⟨w.heap.size, 13, none⟩ = some (.bool x.wi) := e1 13
  have r14 : W1.cell? ⟨w.heap.size, 14, none⟩ = some (.bool on) := e1 14
  clear e1 ob1
  have hc := vAdvise h1 hl hr lo pg hw
  have HACT := Lib.hid (show actV l ⟨4, lo, pg, hw, x, on⟩ = setV l lo pg (okA hw) anyE (adE hw) from rfl)
  clear hf1 h1 h hr hx
  go_enter Try.func11, Try.ntmps11
  go_wp2_with fail
  try rw [hW1]
  refine hc.mono ?_
  rintro e w2 ⟨rfl, ho⟩
  have HO := Lib.hid ho
  obtain ⟨R, hR⟩ : ∃ R, setV l lo pg (okA hw) anyE (adE hw) = R := ⟨_, rfl⟩
  have hn : R.n = 0 ∧ R.gone = [] := by rw [← hR]; exact setV_n _ _ _ _ _ _
  rw [hR] at HO HACT ⊢
  have HN := Lib.hid hn
  clear hc ho hW1 hR hn r0 r1 r2 r3 r4 r5 r6 r7 r8 r9 r10 r11 r12 r13 r14
  go_wp2
  refine bodyPost_ret (results_tmp4 rfl _ _ _) rfl ?_
  have := ActOut.of (g := .slice none 0 0) HF.out (by simp) HACT.out (by rw [HN.out.2]; exact Sl.nil _ _ _) (fun k hk => by cases hk) HO.out
  rw [HN.out.1] at this
  exact this
set_option maxRecDepth 100000 in
set_option maxHeartbeats 2000000 in
theorem act5 (h : MT w b v l) (hl : l.length ≤ 390) (hr : rightB 0 l = true) (lo pg hw : Int) (x : Ent) (on : Bool) (hx : WfE x) :
    Calls Try.prog 11 #[.pointer (some ⟨b, 0, none⟩), .agg #[.int .i64 (5), .int .i64 lo, .int .i64 pg, .int .i64 hw, .int .i64 x.s, .int .i64 x.e, .int .i64 x.f, .int .i64 x.o, .bool x.sh, .int .i64 x.pr, .int .i64 x.mx, .int .i64 x.inh, .int .i64 x.adv, .bool x.wi, .bool on]] w (ActOut b v l ⟨5, lo, pg, hw, x, on⟩ w) := by
  obtain ⟨W1, hW1⟩ : ∃ W1, w.alloc (.cells #[.int .i64 (5), .int .i64 lo, .int .i64 pg, .int .i64 hw, .int .i64 x.s, .int .i64 x.e, .int .i64 x.f, .int .i64 x.o, .bool x.sh, .int .i64 x.pr, .int .i64 x.mx, .int .i64 x.inh, .int .i64 x.adv, .bool x.wi, .bool on] 30) = W1 := ⟨_, rfl⟩
  have hf1 : Fr (fun _ => False) w W1 := by rw [← hW1]; exact (Fr.refl _ _).alloc _
  have h1 := h.keep hf1
  have HF := Lib.hid hf1
  have ob1 : ob W1 w.heap.size = some (.cells (actC ⟨5, lo, pg, hw, x, on⟩).toArray 30 (0, 0)) := by rw [← hW1]; exact ob_new _ _
  have e1 := fun i => cell_of_ob ob1 i
  have r0 : W1.cell? ⟨w.heap.size, 0, none⟩ = some (.int .i64 (5)) := e1 0
  have r1 : W1.cell? ⟨w.heap.size, 1, none⟩ = some (.int .i64 lo) := e1 1
  have r2 : W1.cell? ⟨w.heap.size, 2, none⟩ = some (.int .i64 pg) := e1 2
  have r3 : W1.cell? ⟨w.heap.size, 3, none⟩ = some (.int .i64 hw) := e1 3
  have r4 : W1.cell? ⟨w.heap.size, 4, none⟩ = some (.int .i64 x.s) := e1 4
  have r5 : W1.cell? ⟨w.heap.size, 5, none⟩ = some (.int .i64 x.e) := e1 5
  have r6 : W1.cell? ⟨w.heap.size, 6, none⟩ = some (.int .i64 x.f) := e1 6
  have r7 : W1.cell? ⟨w.heap.size, 7, none⟩ = some (.int .i64 x.o) := e1 7
  have r8 : W1.cell? ⟨w.heap.size, 8, none⟩ = some (.bool x.sh) := e1 8
  have r9 : W1.cell? ⟨w.heap.size, 9, none⟩ = some (.int .i64 x.pr) := e1 9
  have r10 : W1.cell? ⟨w.heap.size, 10, none⟩ = some (.int .i64 x.mx) := e1 10
  have r11 : W1.cell? ⟨w.heap.size, 11, none⟩ = some (.int .i64 x.inh) := e1 11
  have r12 : W1.cell? ⟨w.heap.size, 12, none⟩ = some (.int .i64 x.adv) := e1 12
  have r13 : W1.cell? ⟨w.heap.size, 13, none⟩ = some (.bool x.wi) := e1 13
  have r14 : W1.cell? ⟨w.heap.size, 14, none⟩ = some (.bool on) := e1 14
  clear e1 ob1
  have hc := vWire h1 hl hr lo pg on
  have HACT := Lib.hid (show actV l ⟨5, lo, pg, hw, x, on⟩ = setV l lo pg true anyE (wiE on) from rfl)
  clear hf1 h1 h hr hx
  go_enter Try.func11, Try.ntmps11
  go_wp2_with fail
  try rw [hW1]
  refine hc.mono ?_
  rintro e w2 ⟨rfl, ho⟩
  have HO := Lib.hid ho
  obtain ⟨R, hR⟩ : ∃ R, setV l lo pg true anyE (wiE on) = R := ⟨_, rfl⟩
  have hn : R.n = 0 ∧ R.gone = [] := by rw [← hR]; exact setV_n _ _ _ _ _ _
  rw [hR] at HO HACT ⊢
  have HN := Lib.hid hn
  clear hc ho hW1 hR hn r0 r1 r2 r3 r4 r5 r6 r7 r8 r9 r10 r11 r12 r13 r14
  go_wp2
  refine bodyPost_ret (results_tmp4 rfl _ _ _) rfl ?_
  have := ActOut.of (g := .slice none 0 0) HF.out (by simp) HACT.out (by rw [HN.out.2]; exact Sl.nil _ _ _) (fun k hk => by cases hk) HO.out
  rw [HN.out.1] at this
  exact this
set_option maxRecDepth 100000 in
set_option maxHeartbeats 2000000 in
theorem act6 (h : MT w b v l) (hl : l.length ≤ 390) (hr : rightB 0 l = true) (lo pg hw : Int) (x : Ent) (on : Bool) (hx : WfE x) :
    Calls Try.prog 11 #[.pointer (some ⟨b, 0, none⟩), .agg #[.int .i64 (6), .int .i64 lo, .int .i64 pg, .int .i64 hw, .int .i64 x.s, .int .i64 x.e, .int .i64 x.f, .int .i64 x.o, .bool x.sh, .int .i64 x.pr, .int .i64 x.mx, .int .i64 x.inh, .int .i64 x.adv, .bool x.wi, .bool on]] w (ActOut b v l ⟨6, lo, pg, hw, x, on⟩ w) := by
  obtain ⟨W1, hW1⟩ : ∃ W1, w.alloc (.cells #[.int .i64 (6), .int .i64 lo, .int .i64 pg, .int .i64 hw, .int .i64 x.s, .int .i64 x.e, .int .i64 x.f, .int .i64 x.o, .bool x.sh, .int .i64 x.pr, .int .i64 x.mx, .int .i64 x.inh, .int .i64 x.adv, .bool x.wi, .bool on] 30) = W1 := ⟨_, rfl⟩
  have hf1 : Fr (fun _ => False) w W1 := by rw [← hW1]; exact (Fr.refl _ _).alloc _
  have h1 := h.keep hf1
  have HF := Lib.hid hf1
  have ob1 : ob W1 w.heap.size = some (.cells (actC ⟨6, lo, pg, hw, x, on⟩).toArray 30 (0, 0)) := by rw [← hW1]; exact ob_new _ _
  have e1 := fun i => cell_of_ob ob1 i
  have r0 : W1.cell? ⟨w.heap.size, 0, none⟩ = some (.int .i64 (6)) := e1 0
  have r1 : W1.cell? ⟨w.heap.size, 1, none⟩ = some (.int .i64 lo) := e1 1
  have r2 : W1.cell? ⟨w.heap.size, 2, none⟩ = some (.int .i64 pg) := e1 2
  have r3 : W1.cell? ⟨w.heap.size, 3, none⟩ = some (.int .i64 hw) := e1 3
  have r4 : W1.cell? ⟨w.heap.size, 4, none⟩ = some (.int .i64 x.s) := e1 4
  have r5 : W1.cell? ⟨w.heap.size, 5, none⟩ = some (.int .i64 x.e) := e1 5
  have r6 : W1.cell? ⟨w.heap.size, 6, none⟩ = some (.int .i64 x.f) := e1 6
  have r7 : W1.cell? ⟨w.heap.size, 7, none⟩ = some (.int .i64 x.o) := e1 7
  have r8 : W1.cell? ⟨w.heap.size, 8, none⟩ = some (.bool x.sh) := e1 8
  have r9 : W1.cell? ⟨w.heap.size, 9, none⟩ = some (.int .i64 x.pr) := e1 9
  have r10 : W1.cell? ⟨w.heap.size, 10, none⟩ = some (.int .i64 x.mx) := e1 10
  have r11 : W1.cell? ⟨w.heap.size, 11, none⟩ = some (.int .i64 x.inh) := e1 11
  have r12 : W1.cell? ⟨w.heap.size, 12, none⟩ = some (.int .i64 x.adv) := e1 12
  have r13 : W1.cell? ⟨w.heap.size, 13, none⟩ = some (.bool x.wi) := e1 13
  have r14 : W1.cell? ⟨w.heap.size, 14, none⟩ = some (.bool on) := e1 14
  clear e1 ob1
  have hc := vfork_any h1 hl hr
  have HACT := Lib.hid (show actV l ⟨6, lo, pg, hw, x, on⟩ = ⟨0, [], 0, forkV l⟩ from rfl)
  clear hf1 h1 h hr hx
  go_enter Try.func11, Try.ntmps11
  go_wp2_with fail
  try rw [hW1]
  refine hc.mono ?_
  rintro e w2 ⟨bx, vx, rfl, hm, hb, ho, hf⟩
  have HM := Lib.hid hm
  have HB := Lib.hid hb
  have HO := Lib.hid ho
  have HF2 := Lib.hid (Fr.also HF.out hf)
  clear hc hm hb ho hf hW1 r0 r1 r2 r3 r4 r5 r6 r7 r8 r9 r10 r11 r12 r13 r14
  go_wp2
  refine bodyPost_ret (results_tmp4 rfl _ _ _) rfl ?_
  refine ⟨bx, vx, .slice none 0 0, by rw [HACT.out]; rfl, Sl.nil _ _ _ |> fun h => by rw [HACT.out]; exact h, (fun k hk => by cases hk), by rw [HACT.out]; exact HM.out, .inr ⟨Nat.le_trans HF.out.size HB.out, rfl⟩, fun k hk => .inr (Nat.le_trans HF.out.size (HO.out k hk)), HF2.out.mono' (fun _ h => h.elim)⟩
set_option maxRecDepth 100000 in
set_option maxHeartbeats 2000000 in
theorem actn (h : MT w b v l) (hl : l.length ≤ 390) (hr : rightB 0 l = true) (kd lo pg hw : Int) (x : Ent) (on : Bool) (hx : WfE x) (k0 : ¬ kd = 0) (k1 : ¬ kd = 1) (k2 : ¬ kd = 2) (k3 : ¬ kd = 3) (k4 : ¬ kd = 4) (k5 : ¬ kd = 5) (k6 : ¬ kd = 6) :
    Calls Try.prog 11 #[.pointer (some ⟨b, 0, none⟩), .agg #[.int .i64 kd, .int .i64 lo, .int .i64 pg, .int .i64 hw, .int .i64 x.s, .int .i64 x.e, .int .i64 x.f, .int .i64 x.o, .bool x.sh, .int .i64 x.pr, .int .i64 x.mx, .int .i64 x.inh, .int .i64 x.adv, .bool x.wi, .bool on]] w (ActOut b v l ⟨kd, lo, pg, hw, x, on⟩ w) := by
  obtain ⟨W1, hW1⟩ : ∃ W1, w.alloc (.cells #[.int .i64 kd, .int .i64 lo, .int .i64 pg, .int .i64 hw, .int .i64 x.s, .int .i64 x.e, .int .i64 x.f, .int .i64 x.o, .bool x.sh, .int .i64 x.pr, .int .i64 x.mx, .int .i64 x.inh, .int .i64 x.adv, .bool x.wi, .bool on] 30) = W1 := ⟨_, rfl⟩
  have hf1 : Fr (fun _ => False) w W1 := by rw [← hW1]; exact (Fr.refl _ _).alloc _
  have h1 := h.keep hf1
  have HF := Lib.hid hf1
  have ob1 : ob W1 w.heap.size = some (.cells (actC ⟨kd, lo, pg, hw, x, on⟩).toArray 30 (0, 0)) := by rw [← hW1]; exact ob_new _ _
  have e1 := fun i => cell_of_ob ob1 i
  have r0 : W1.cell? ⟨w.heap.size, 0, none⟩ = some (.int .i64 (kd)) := e1 0
  have r1 : W1.cell? ⟨w.heap.size, 1, none⟩ = some (.int .i64 lo) := e1 1
  have r2 : W1.cell? ⟨w.heap.size, 2, none⟩ = some (.int .i64 pg) := e1 2
  have r3 : W1.cell? ⟨w.heap.size, 3, none⟩ = some (.int .i64 hw) := e1 3
  have r4 : W1.cell? ⟨w.heap.size, 4, none⟩ = some (.int .i64 x.s) := e1 4
  have r5 : W1.cell? ⟨w.heap.size, 5, none⟩ = some (.int .i64 x.e) := e1 5
  have r6 : W1.cell? ⟨w.heap.size, 6, none⟩ = some (.int .i64 x.f) := e1 6
  have r7 : W1.cell? ⟨w.heap.size, 7, none⟩ = some (.int .i64 x.o) := e1 7
  have r8 : W1.cell? ⟨w.heap.size, 8, none⟩ = some (.bool x.sh) := e1 8
  have r9 : W1.cell? ⟨w.heap.size, 9, none⟩ = some (.int .i64 x.pr) := e1 9
  have r10 : W1.cell? ⟨w.heap.size, 10, none⟩ = some (.int .i64 x.mx) := e1 10
  have r11 : W1.cell? ⟨w.heap.size, 11, none⟩ = some (.int .i64 x.inh) := e1 11
  have r12 : W1.cell? ⟨w.heap.size, 12, none⟩ = some (.int .i64 x.adv) := e1 12
  have r13 : W1.cell? ⟨w.heap.size, 13, none⟩ = some (.bool x.wi) := e1 13
  have r14 : W1.cell? ⟨w.heap.size, 14, none⟩ = some (.bool on) := e1 14
  clear e1 ob1
  have HACT := Lib.hid (show actV l ⟨kd, lo, pg, hw, x, on⟩ = ⟨0, [], 0, l⟩ by unfold actV; rw [if_neg k0, if_neg k1, if_neg k2, if_neg k3, if_neg k4, if_neg k5, if_neg k6])
  have HK := Lib.hid k6
  have HH := Lib.hid h1
  have c9 := trivial
  clear hf1 h1 h hr hx
  go_enter Try.func11, Try.ntmps11
  go_wp2
  try rw [hW1]
  refine bodyPost_ret (results_tmp4 rfl _ _ _) rfl ?_
  exact ActOut.of HF.out HK.out HACT.out (Sl.nil _ _ _) (fun k hk => by cases hk) (HH.out.same (Fr.refl _ _))
theorem act_any (h : MT w b v l) (hl : l.length ≤ 390) (hr : rightB 0 l = true) (a : VAct) (hx : WfE a.x) :
    Calls Try.prog 11 #[.pointer (some ⟨b, 0, none⟩), .agg (actC a).toArray] w (ActOut b v l a w) := by
  obtain ⟨kd, lo, pg, hw, x, on⟩ := a
  by_cases k0 : kd = 0
  · subst k0; exact act0 h hl hr lo pg hw x on hx
  by_cases k1 : kd = 1
  · subst k1; exact act1 h hl hr lo pg hw x on hx
  by_cases k2 : kd = 2
  · subst k2; exact act2 h hl hr lo pg hw x on hx
  by_cases k3 : kd = 3
  · subst k3; exact act3 h hl hr lo pg hw x on hx
  by_cases k4 : kd = 4
  · subst k4; exact act4 h hl hr lo pg hw x on hx
  by_cases k5 : kd = 5
  · subst k5; exact act5 h hl hr lo pg hw x on hx
  by_cases k6 : kd = 6
  · subst k6; exact act6 h hl hr lo pg hw x on hx
  exact actn h hl hr kd lo pg hw x on hx k0 k1 k2 k3 k4 k5 k6
end
end Go.Proofs.Ytopglbkcciigbaa
