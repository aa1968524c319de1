/- ring.Rows[string]: what is done to the blocks; Remove. No conditions but bounds on lengths. -/
import Derived.Test.YtfcpodlbombimaaRgBS
import Derived.Deep.RegionWith
namespace Go.Proofs.Ytfcpodlbombimaa
open Go.RowKit
set_option linter.unusedSimpArgs false
set_option linter.unusedVariables false
section
variable {w w1 : World} {b r m : Nat} {vs : List Value} {L : List (List ByteArray)} {W W2 : List (ByteArray × Int)} {S : Nat → Prop}
theorem RTS.mb (h : RTS w b r m vs L W) : m ≠ b ∧ m ≠ r ∧ ∀ (i : Nat) v, vs[i]? = some v → v.ownBlock ≠ some m := by
  obtain ⟨es, c, ho, -⟩ := h.all
  refine ⟨fun e => ?_, fun e => ?_, fun i v hv hk => ?_⟩
  · rw [e, h.blk] at ho; cases ho
  · rw [e, h.rows] at ho; cases ho
  · have hl : L[i]? = some (L[i]'(by rw [← h.vlen]; exact (List.getElem?_eq_some_iff.1 hv).1)) := List.getElem?_eq_getElem _
    have hs : Sl w 9 1 v _ := h.row i v _ hv hl
    rcases hs with ⟨rfl, _⟩ | ⟨g, off, n', cap', row, rfl, ho', _⟩
    · cases hk
    · cases hk; rw [ho'] at ho; cases ho
/-- The map alone is another. -/
theorem RTS.map (h : RTS w b r m vs L W) (hf : Fr (fun k => k = m) w w1) (hm : MapIs kvS giS w1 m W2) : RTS w1 b r m vs L W2 := by
  obtain ⟨h1, h2, h3⟩ := h.mb
  exact {
    blk := hf.keep (fun e => h1 e.symm) h.blk
    rows := hf.keep (fun e => h2 e.symm) h.rows
    vlen := h.vlen
    row := fun i v l hv hl => (h.row i v l hv hl).fr hf (fun k hk e => h3 i v hv (e ▸ hk))
    sep := h.sep, off := h.off, br := h.br, all := hm, pos := h.pos, few := h.few }
/-- One row is another. -/
theorem RTS.setrow (h : RTS w b r m vs L W) {j : Nat} {v v2 : Value} {l2 : List ByteArray} (hv : vs[j]? = some v) (hf : Fr (fun k => v.ownBlock = some k) w w1) (hs : SKS w1 v2 l2)
    (ho : ∀ k, v2.ownBlock = some k → v.ownBlock = some k ∨ w.heap.size ≤ k) :
    RTS (w1.setCell ⟨r, j, none⟩ v2) b r m (vs.set j v2) (L.set j l2) W ∧ Fr (RSS b r m vs) w (w1.setCell ⟨r, j, none⟩ v2) ∧ (∀ k, RSS b r m (vs.set j v2) k → RSS b r m vs k ∨ w.heap.size ≤ k) := by
  have hj : j < vs.length := (List.getElem?_eq_some_iff.1 hv).1
  obtain ⟨h1, h2, h3⟩ := h.mb
  have hr : ob w1 r = some (.cells vs.toArray 71 (0, 0)) := hf.keep (fun e => (h.off j v r hv e).2 rfl) h.rows
  have hb := h.lt (.inl rfl)
  have hrl := h.lt (.inr (.inl rfl))
  have hfr : Fr (fun k => v.ownBlock = some k ∨ k = r) w (w1.setCell ⟨r, j, none⟩ v2) := (hf.mono' (fun k hk => .inl hk)).setCell _ _ (.inl (.inr rfl))
  have hold : ∀ (i : Nat) u, i ≠ j → (vs.set j v2)[i]? = some u → vs[i]? = some u := fun i u hi hu => by rwa [List.getElem?_set_ne (fun e => hi e.symm)] at hu
  have hnew : ∀ u, (vs.set j v2)[j]? = some u → u = v2 := fun u hu => by rw [List.getElem?_set_self hj] at hu; cases hu; rfl
  have hlt : ∀ (i : Nat) u k, vs[i]? = some u → u.ownBlock = some k → k < w.heap.size := fun i u k hu hk => h.lt (.inr (.inr (.inr ⟨u, List.mem_of_getElem? hu, hk⟩)))
  have hbs : ∀ k, v2.ownBlock = some k → k ≠ b ∧ k ≠ r ∧ k ≠ m := fun k hk => by
    rcases ho k hk with h4 | h4
    · exact ⟨(h.off j v k hv h4).1, (h.off j v k hv h4).2, fun e => h3 j v hv (e ▸ h4)⟩
    · have := h.lt (k := m) (.inr (.inr (.inl rfl)))
      exact ⟨by omega, by omega, by omega⟩
  refine ⟨?_, hfr.mono' (fun k hk => ?_), fun k hk => ?_⟩
  · exact {
      blk := by rw [List.length_set]; exact hfr.keep (fun e => e.elim (fun e => (h.off j v b hv e).1 rfl) h.br) h.blk
      rows := by
        rw [ob_setCell_same hr]
        simp
      vlen := by simp [h.vlen]
      row := fun i u l hu hl => by
        by_cases hi : i = j
        · subst hi
          obtain rfl := hnew u hu
          rw [List.getElem?_set_self (by rw [← h.vlen]; exact hj)] at hl
          cases hl
          exact hs.of (fun k hk => ob_setCell _ _ _ _ (hbs k hk).2.1)
        · have hu2 := hold i u hi hu
          rw [List.getElem?_set_ne (fun e => hi e.symm)] at hl
          exact (h.row i u l hu2 hl).fr hfr (fun k hk e => e.elim (fun e => h.sep i j u v hu2 hv hi k hk e) (fun e => (h.off i u k hu2 hk).2 e))
      sep := fun i i2 u u2 hu hu2 hne k hk hk2 => by
        by_cases hi : i = j
        · subst hi
          obtain rfl := hnew u hu
          have hu3 := hold i2 u2 (fun e => hne e.symm) hu2
          rcases ho k hk with h4 | h4
          · exact h.sep i i2 v u2 hv hu3 hne k h4 hk2
          · have := hlt i2 u2 k hu3 hk2; omega
        · have hu3 := hold i u hi hu
          by_cases hi2 : i2 = j
          · subst hi2
            obtain rfl := hnew u2 hu2
            rcases ho k hk2 with h4 | h4
            · exact h.sep i i2 u v hu3 hv hne k hk h4
            · have := hlt i u k hu3 hk; omega
          · exact h.sep i i2 u u2 hu3 (hold i2 u2 hi2 hu2) hne k hk hk2
      off := fun i u k hu hk => by
        by_cases hi : i = j
        · subst hi
          obtain rfl := hnew u hu
          exact ⟨(hbs k hk).1, (hbs k hk).2.1⟩
        · exact h.off i u k (hold i u hi hu) hk
      br := h.br
      all := h.all.of (hfr.block m h.all.lt (fun e => e.elim (fun e => h3 j v hv e) h2))
      pos := by simpa using h.pos
      few := by simpa using h.few }
  · rcases hk with hk | rfl
    · exact .inr (.inr (.inr ⟨v, List.mem_of_getElem? hv, hk⟩))
    · exact .inr (.inl rfl)
  · rcases hk with rfl | rfl | rfl | ⟨u, hu, hk⟩
    · exact .inl (.inl rfl)
    · exact .inl (.inr (.inl rfl))
    · exact .inl (.inr (.inr (.inl rfl)))
    · obtain ⟨i, hi⟩ := List.mem_iff_getElem?.1 hu
      by_cases hij : i = j
      · subst hij
        obtain rfl := hnew u hi
        rcases ho k hk with h4 | h4
        · exact .inl (.inr (.inr (.inr ⟨v, List.mem_of_getElem? hv, h4⟩)))
        · exact .inr h4
      · exact .inl (.inr (.inr (.inr ⟨u, List.mem_of_getElem? (hold i u hij hi), hk⟩)))
end
set_option maxRecDepth 100000 in
theorem removeS_out {w : World} {b r m : Nat} {vs : List Value} {L : List (List ByteArray)} {W : List (ByteArray × Int)} (h : RTS w b r m vs L W) (x : ByteArray) (hx : alGet W x = none) :
    Calls Try.prog 56 #[.pointer (some ⟨b, 0, none⟩), Value.string x] w fun e w' => e = .returned (.bool false) ∧ Fr (fun _ => False) w w' := by
  have c0 : (w.alloc (.cells #[Value.string x] 9)).cell? ⟨w.heap.size, 0, none⟩ = some (Value.string x) := cell_of_ob (ob_new _ _) 0
  go_enter Try.func56, Try.ntmps56
  go_wp2_with fail
  refine (whereS_any (h.keep ((Fr.refl _ w).alloc _)) x).mono ?_
  rw [hx]
  rintro e w1 ⟨rfl, rfl⟩
  go_wp2
  go_ret
  exact ⟨rfl, (Fr.refl _ w).alloc _⟩
set_option maxRecDepth 100000 in
set_option maxHeartbeats 4000000 in
theorem removeS_in {w : World} {b r m : Nat} {vs : List Value} {L : List (List ByteArray)} {W : List (ByteArray × Int)} (h : RTS w b r m vs L W) (x : ByteArray) (j : Nat) (hx : alGet W x = some (j : Int)) (l : List ByteArray) (hl : L[j]? = some l) (hll : l.length ≤ 5000) :
    Calls Try.prog 56 #[.pointer (some ⟨b, 0, none⟩), Value.string x] w fun e w' => ∃ v2, e = .returned (.bool true) ∧ RTS w' b r m (vs.set j v2) (L.set j (l.filter (fun y => !decide (y = x)))) (alDel W x) ∧ Fr (RSS b r m vs) w w' ∧
      ∀ k, RSS b r m (vs.set j v2) k → RSS b r m vs k ∨ w.heap.size ≤ k := by
  have hjL : j < L.length := (List.getElem?_eq_some_iff.1 hl).1
  obtain ⟨l', A, N, C, hl', hv, -, -, -, -, -, -, hf⟩ := h.at hjL
  obtain rfl : l = l' := by rw [hl] at hl'; cases hl'; rfl
  obtain ⟨W1, hW1⟩ : ∃ W1, w.alloc (.cells #[Value.string x] 9) = W1 := ⟨_, rfl⟩
  have hf1 : Fr (fun _ => False) w W1 := by rw [← hW1]; exact (Fr.refl _ w).alloc _
  have h1 := h.keep hf1
  have o1 : ob W1 w.heap.size = some (.cells #[Value.string x] 9 (0, 0)) := by rw [← hW1]; exact ob_new _ _
  have c0 := cell_of_ob o1 0
  have c1 : W1.cell? ⟨b, 1, none⟩ = some (.map (some m)) := cell_of_ob h1.blk 1
  have s1 : W1.heap.size = w.heap.size + 1 := by rw [← hW1]; simp
  obtain ⟨bi, hbi⟩ : ∃ bi, w.heap.size = bi := ⟨_, rfl⟩
  rw [hbi] at o1 s1 c0
  have hlt : ∀ k, RSS b r m vs k → k < bi := fun k hk => by rw [← hbi]; exact h.lt hk
  have hdone : ∀ w4 : World, Fr (RSS b r m vs) W1 w4 → Fr (RSS b r m vs) w w4 := fun w4 h4 => (hf1.mono' (fun _ h => h.elim)).step h4 (fun _ h => .inl h)
  have HDONE := Lib.hid hdone
  have HLT := Lib.hid hlt
  have HV := Lib.hid hv
  have hwh := whereS_any h1 x
  rw [hx] at hwh
  go_enter Try.func56, Try.ntmps56
  go_wp2_with fail
  have HBI := Lib.hid hbi
  clear hW1 hf1 h hdone hlt hv hbi
  refine hwh.mono ?_
  rintro e w2 ⟨rfl, rfl⟩
  clear hwh
  go_upto_region 4 with fail
  refine wp_region_canon [0, 1, 2, 3, 4, 5] (by kernel_rfl) (by kernel_rfl) (fun K hK => ?_)
  simp only [List.map_cons, List.map_nil, List.getD_cons_succ, List.getD_cons_zero]
  go_wp2_with (at_delete; go_must (refine wpList_del rfl _ _ _ _ rfl rfl x rfl keyokS Try.underlying68 (h1.all.of rfl) ?_; intro o2 hm2))
  refine hK _ _ (by kernel_rfl) ?_
  clear hK K
  have hf2 : Fr (fun k => k = m) w2 (putOb w2.drew m o2) := ((Fr.refl _ w2).drew).putOb _ _ (.inl rfl)
  obtain ⟨w3, hw3⟩ : ∃ w3, w3 = putOb w2.drew m o2 := ⟨_, rfl⟩
  rw [← hw3] at hm2 hf2
  rw [← hw3]
  have h3 := h1.map hf2 hm2
  have o3 := hf2.keep (fun e => by have := HLT.out m (.inr (.inr (.inl rfl))); omega) o1
  clear hw3 c0 c1 h1 o1
  obtain ⟨l', A', N', C', hl', hv3, hs3, -, d0, -, d1, fz, -⟩ := h3.at hjL
  obtain rfl : l = l' := by rw [hl] at hl'; cases hl'; rfl
  obtain ⟨rfl, rfl, rfl⟩ : A = A' ∧ N = N' ∧ C = C' := by rw [HV.out] at hv3; cases hv3; exact ⟨rfl, rfl, rfl⟩
  have e0 := cell_of_ob o3 0
  have key : ∀ w4, Fr (fun k => (Value.slice A N C).ownBlock = some k) w3 w4 → w4.cell? ⟨b, 0, none⟩ = some (.slice (some ⟨r, 0, none⟩) L.length L.length) ∧ w4.cell? ⟨r, j, none⟩ = some (.slice A N C) ∧ w4.frozen? ⟨r, j, none⟩ = false := fun w4 h4 => by
    have p1 := h4.keep (fun e => (h3.off j _ _ hv3 e).1 rfl) h3.blk
    have p2 := h4.keep (fun e => (h3.off j _ _ hv3 e).2 rfl) h3.rows
    exact ⟨cell_of_ob p1 0, by rw [cell_of_ob p2]; simpa using hv3, frozen_of_ob p2 _⟩
  have KEY := Lib.hid key
  obtain ⟨k0, k1, k2⟩ := key w3 (Fr.refl _ _)
  have hown : ∀ k, (Value.slice A N C).ownBlock = some k → k ≠ bi := fun k hk e => by
    have := HLT.out k (.inr (.inr (.inr ⟨_, List.mem_of_getElem? hv3, hk⟩))); omega
  have hdel := deleteS_any (W := w3.drew) (y := x) (bi := bi) o3 (hs3.drew) hown hll
  clear key hl' hl
  have hbr : ¬ b = r := h3.br
  have hrb : ¬ r = b := fun e => hbr e.symm
  go_wp2_with fail
  clear d0 d1 hm2 hf
  go_region_with (first | (go_at_call 61; refine hdel.mono ?_; rintro e w4 ⟨v2, rfl, hs4, hf4, ho4⟩; obtain ⟨A2, N2, C2, rfl⟩ := hs4.shape; have hf5 := ((Fr.refl (fun k => (Value.slice A N C).ownBlock = some k) w3).drew).step hf4 (fun _ h => .inl h); obtain ⟨n0, n1, n2⟩ := KEY.out w4 hf5))
  all_goals (
    obtain ⟨p1, p2, p3⟩ := h3.setrow hv3 hf5 hs4 (fun k hk => .inl (by rw [← ho4]; exact hk))
    have hfin := HDONE.out _ ((hf2.mono' (S2 := RSS b r m vs) (fun k hk => .inr (.inr (.inl hk)))).step p2 (fun _ h => .inl h))
    have hsz := hf2.size
    have HS := Lib.hid (show ∀ k, RSS b r m (vs.set j (.slice A2 N2 C2)) k → RSS b r m vs k ∨ w.heap.size ≤ k from fun k hk => by rcases p3 k hk with h4 | h4 <;> first | exact .inl h4 | (right; have := HBI.out; omega))
    clear p3
    go_wp2
    go_ret
    exact ⟨_, rfl, p1, hfin, HS.out⟩)
end Go.Proofs.Ytfcpodlbombimaa
