/- tlb.Table in memory: Put, Keys. -/
import Derived.Test.YtehgfhcpjeepkaaTabD
namespace Go.Proofs.Ytehgfhcpjeepkaa
open Go.RowKit
set_option linter.unusedSimpArgs false
set_option linter.unusedVariables false
/-- What a table holds when an entry is put: the eldest key goes if there are too many. -/
def tput (n : Int) (l : List (K2 × K2)) (k e : K2) : List (K2 × K2) :=
  if n < (alSet l k e).length then (alSet l k e).tail else alSet l k e
section
variable {κ α : Type} [DecidableEq κ]
theorem alSet_keys : ∀ (l : List (κ × α)) (k : κ) (v : α), (alSet l k v).map (·.1) = if (alGet l k).isSome then l.map (·.1) else l.map (·.1) ++ [k]
  | [], k, v => by simp [alSet, alGet]
  | (x, u) :: l, k, v => by
    by_cases hx : x = k
    · subst hx; simp [alSet, alGet]
    · simp only [alSet, alGet, hx, if_false, List.map_cons]
      rw [alSet_keys l k v]
      split <;> simp
theorem alGet_isSome : ∀ (l : List (κ × α)) (k : κ), (alGet l k).isSome = true ↔ k ∈ l.map (·.1)
  | [], k => by simp [alGet]
  | (x, u) :: l, k => by
    by_cases hx : x = k
    · subst hx; simp [alGet]
    · simp only [alGet, hx, if_false, List.map_cons, List.mem_cons]
      rw [alGet_isSome l k]
      simp [Ne.symm hx]
theorem alSet_ne (l : List (κ × α)) (k : κ) (v : α) : alSet l k v ≠ [] := by
  cases l with
  | nil => simp [alSet]
  | cons x l => obtain ⟨y, u⟩ := x; simp only [alSet]; split <;> simp
theorem alSet_nodup (l : List (κ × α)) (k : κ) (v : α) (h : (l.map (·.1)).Nodup) : ((alSet l k v).map (·.1)).Nodup := by
  rw [alSet_keys]
  split
  · exact h
  · rename_i hn
    rw [List.nodup_append]
    refine ⟨h, by simp, fun a ha b hb => ?_⟩
    simp at hb
    subst hb
    intro e
    subst e
    exact hn ((alGet_isSome l a).2 ha)
theorem alSet_length (l : List (κ × α)) (k : κ) (v : α) : (alSet l k v).length = if (alGet l k).isSome then l.length else l.length + 1 := by
  have := congrArg List.length (alSet_keys l k v)
  rw [List.length_map] at this
  rw [this]
  split <;> simp
theorem filter_head {κ α : Type} [DecidableEq κ] (x : κ × α) (l : List (κ × α)) (h : ((x :: l).map (·.1)).Nodup) : (x :: l).filter (fun y => !decide (y.1 = x.1)) = l := by
  rw [List.filter_cons]
  simp only [decide_true, Bool.not_true, Bool.false_eq_true, if_false]
  rw [List.filter_eq_self]
  intro y hy
  simp only [List.map_cons, List.nodup_cons] at h
  have : y.1 ≠ x.1 := fun e => h.1 (by rw [← e]; exact List.mem_map_of_mem hy)
  simp [this]
end
theorem tput_nodup (n : Int) (l : List (K2 × K2)) (k e : K2) (h : (l.map (·.1)).Nodup) : ((tput n l k e).map (·.1)).Nodup := by
  unfold tput
  have := alSet_nodup l k e h
  split
  · rw [List.map_tail]; exact this.tail
  · exact this
theorem tput_len (n : Int) (l : List (K2 × K2)) (k e : K2) (h : (l.length : Int) ≤ n) : ((tput n l k e).length : Int) ≤ n := by
  unfold tput
  have := alSet_length l k e
  split
  · rw [List.length_tail, this]; split <;> omega
  · omega
/-- The last step of Put: drop, if there are too many. -/
def PutPost (w : World) (b : Nat) (n : Int) (kv : Value) (m : Nat) (l : List (K2 × K2)) (w' : World) : Prop :=
  ∃ kv', Tab w' b n kv' m l ∧ Fr (tabS b kv m) w w' ∧ ∀ q, kv'.ownBlock = some q → kv.ownBlock = some q ∨ w.heap.size ≤ q
set_option maxHeartbeats 1000000 in
theorem put_any {w : World} {b : Nat} {n : Int} {kv : Value} {m : Nat} {l : List (K2 × K2)} (h : Tab w b n kv m l) (hnd : (l.map (·.1)).Nodup) (hl : l.length ≤ 100000) (k e : K2) :
    Calls Try.prog 9 #[.pointer (some ⟨b, 0, none⟩), .agg #[.int .i64 k.1, .int .i64 k.2], .agg #[.int .i64 e.1, .int .i64 e.2]] w fun en w' =>
      en = .returned (.tuple #[]) ∧ PutPost w b n kv m (tput n l k e) w' := by
  have c1 : w.cell? ⟨b, 1, none⟩ = some kv := cell_of_ob h.blk 1
  have c2 : w.cell? ⟨b, 2, none⟩ = some (.map (some m)) := cell_of_ob h.blk 2
  have hb := h.lt
  have hml := h.mlt
  have hb1 : b < w.heap.size + 1 := by omega
  have hb2 : b < w.heap.size + 1 + 1 := by omega
  have hml1 : m < w.heap.size + 1 := by omega
  have hml2 : m < w.heap.size + 1 + 1 := by omega
  obtain ⟨r, hr⟩ : ∃ r, r = (alGet l k).getD (0, 0) := ⟨_, rfl⟩
  obtain ⟨ok, hok⟩ : ∃ ok, ok = (alGet l k).isSome := ⟨_, rfl⟩
  have Hr := Lib.hid hr
  have Hok := Lib.hid hok
  clear hr hok
  go_enter Try.func9, Try.ntmps9
  go_wp2
  refine wp_region_canon [0, 1, 2, 3, 4, 5, 6, 7, 8, 9, 10, 11] (by kernel_rfl) (by kernel_rfl) (fun K hK => ?_)
  simp only [List.map_cons, List.map_nil, List.getD_cons_succ, List.getD_cons_zero]
  go_wp2_with (at_lookup; go_must (refine wpList_look2 rfl _ _ _ rfl rfl k rfl key_k2 Try.underlying56 (0, 0) zeroPTE (h.kept.of (by go_simp)) r ok Hr.out.symm Hok.out.symm ?_; simp only [k2]))
  refine hK _ _ (by kernel_rfl) ?_
  clear hK K
  -- the world so far, under one name
  obtain ⟨W, hW⟩ : ∃ W, W = ((((w.alloc (.cells #[.pointer (some ⟨b, 0, none⟩)] 23)).alloc (.cells #[.int .i64 k.1, .int .i64 k.2] 27)).alloc (.cells #[.int .i64 e.1, .int .i64 e.2] 29)).alloc (.cells #[.int .i64 r.1, .int .i64 r.2] 29)).drew := ⟨_, rfl⟩
  rw [← hW]
  have hsz : W.heap.size = w.heap.size + 4 := by rw [hW]; simp
  have hfr : Fr (tabS b kv m) w W := by rw [hW]; exact (((((Fr.refl _ _).alloc _).alloc _).alloc _).alloc _).drew
  have ob3 : ob W w.heap.size = some (.cells #[.pointer (some ⟨b, 0, none⟩)] 23 (0, 0)) := by
    rw [hW, ob_drew, ob_alloc _ _ _ (by simp only [World.size_alloc]; omega), ob_alloc _ _ _ (by simp only [World.size_alloc]; omega), ob_alloc _ _ _ (by simp only [World.size_alloc]; omega), ob_new]
  have ob4 : ob W (w.heap.size + 1) = some (.cells #[.int .i64 k.1, .int .i64 k.2] 27 (0, 0)) := by
    rw [hW, ob_drew, ob_alloc _ _ _ (by simp only [World.size_alloc]; omega), ob_alloc _ _ _ (by simp only [World.size_alloc]; omega), ob_newAt _ _ _ (by simp)]
  have ob5 : ob W (w.heap.size + 1 + 1) = some (.cells #[.int .i64 e.1, .int .i64 e.2] 29 (0, 0)) := by
    rw [hW, ob_drew, ob_alloc _ _ _ (by simp only [World.size_alloc]; omega), ob_newAt _ _ _ (by simp)]
  have hT : Tab W b n kv m l := h.of fun q _ hq => by
    rw [hW, ob_drew, ob_alloc _ _ _ (by simp only [World.size_alloc]; omega), ob_alloc _ _ _ (by simp only [World.size_alloc]; omega), ob_alloc _ _ _ (by simp only [World.size_alloc]; omega), ob_alloc _ _ _ hq]
  have hszL : w.heap.size + 1 + 1 + 1 < W.heap.size := by omega
  have hbW : b < W.heap.size := by omega
  clear hW hsz
  have hkeys := alSet_keys l k e
  rw [← Hok.out] at hkeys
  have HK := Lib.hid hkeys
  clear hkeys c1 c2 hb1 hb2 hml1 hml2
  cases ok with
  | true =>
    obtain ⟨A1, N1, C1, rfl⟩ : ∃ A N C, kv = .slice A N C := by
      rcases h.keys with ⟨rfl, _⟩ | ⟨g, off, n, cap, row, rfl, _⟩ <;> exact ⟨_, _, _, rfl⟩
    obtain ⟨W2, rfl⟩ : ∃ W2, W2 = W := ⟨_, rfl⟩
    have hk1 : Sl W2 27 2 (.slice A1 N1 C1) (((alSet l k e).map (·.1)).flatMap k2s) := by rw [HK.out, if_pos rfl]; exact hT.keys
    have hm1 : MapIs k2 k2 W2 m l := hT.kept
    have hb1 := hT.blk
    have hfr1 := hfr
    have o3 := ob3
    have o4 := ob4
    have o5 := ob5
    have hszL2 : w.heap.size + 1 + 1 + 1 < W2.heap.size := hszL
    have hown1 : ∀ q, (Value.slice A1 N1 C1).ownBlock = some q → (Value.slice A1 N1 C1).ownBlock = some q ∨ w.heap.size ≤ q := fun q hq => .inl hq
    clear hfr hT ob3 ob4 ob5
    have hq3m : w.heap.size ≠ m := by omega
    have hq4m : w.heap.size + 1 ≠ m := by omega
    have hq5m : w.heap.size + 1 + 1 ≠ m := by omega
    have hbm : b ≠ m := h.bm
    have c30 : W2.cell? ⟨w.heap.size, 0, none⟩ = some (.pointer (some ⟨b, 0, none⟩)) := cell_of_ob o3 0
    have c40 : W2.cell? ⟨w.heap.size + 1, 0, none⟩ = some (.int .i64 k.1) := cell_of_ob o4 0
    have c41 : W2.cell? ⟨w.heap.size + 1, 1, none⟩ = some (.int .i64 k.2) := cell_of_ob o4 1
    have c50 : W2.cell? ⟨w.heap.size + 1 + 1, 0, none⟩ = some (.int .i64 e.1) := cell_of_ob o5 0
    have c51 : W2.cell? ⟨w.heap.size + 1 + 1, 1, none⟩ = some (.int .i64 e.2) := cell_of_ob o5 1
    have cb0 : W2.cell? ⟨b, 0, none⟩ = some (.int .i64 n) := cell_of_ob hb1 0
    have cb1 : W2.cell? ⟨b, 1, none⟩ = some (.slice A1 N1 C1) := cell_of_ob hb1 1
    have cb2 : W2.cell? ⟨b, 2, none⟩ = some (.map (some m)) := cell_of_ob hb1 2
    go_wp2
    refine wp_region_canon [0, 1, 2, 3, 4, 5, 6] (by kernel_rfl) (by kernel_rfl) (fun K hK => ?_)
    simp only [List.map_cons, List.map_nil, List.getD_cons_succ, List.getD_cons_zero]
    go_wp2_with (at_mapUpdate; go_must (refine wpList_upd rfl _ _ _ _ rfl rfl k rfl e rfl key_k2 Try.underlying56 (hm1.of rfl) ?_; intro o2 hm2))
    refine hK _ _ (by kernel_rfl) ?_
    clear hK K
    have hN : N1 = (alSet l k e).length := by
      have h1 := hk1.len
      rw [len_flat, List.length_map] at h1
      simp only [sliceLen] at h1
      omega
    have hnd2 := alSet_nodup l k e hnd
    have hfr2 : Fr _ w (putOb W2.drew m o2) := (hfr1.drew).putOb _ _ (.inl (.inr (.inl rfl)))
    have hown2 : ∀ q, (Value.slice A1 N1 C1).ownBlock = some q → q ≠ m := fun q hq he => by
      rcases hown1 q hq with h1 | h1
      · exact h.mk' (by rw [h1, he])
      · omega
    have hT2 : Tab (putOb W2.drew m o2) b n (.slice A1 N1 C1) m (alSet l k e) := ⟨(ob_putOb_ne _ _ _ _ hbm).trans hb1, hk1.drew.of fun q hq => ob_putOb_ne _ _ _ _ (hown2 q hq), hm2⟩
    have HN := Lib.hid hN
    clear hN hm2
    go_wp2
    refine wp_region_canon [0, 1, 2, 3, 4, 5, 6, 7, 8, 9] (by kernel_rfl) (by kernel_rfl) (fun K hK => ?_)
    simp only [List.map_cons, List.map_nil, List.getD_cons_succ, List.getD_cons_zero]
    go_wp2
    refine hK _ _ (by kernel_rfl) ?_
    clear hK K
    by_cases hlt : n < (N1 : Int)
    · go_wp2_with fail
      obtain ⟨x, rest, hx⟩ := List.exists_cons_of_ne_nil (alSet_ne l k e)
      obtain ⟨hg0, hg1⟩ := flat_get ((alSet l k e).map (·.1)) 0 x.1 (by rw [hx]; rfl)
      obtain ⟨g, off, n', cap', heq, hgl, hcs, _, _⟩ := hk1.form (by intro e0; rw [e0] at hg0; cases hg0)
      cases heq
      have hx0 := hcs _ _ hg0
      have hx1 := hcs _ _ hg1
      simp only [Nat.zero_mul, Nat.add_zero, Nat.zero_add] at hx0 hx1
      have hgm : g ≠ m := hown2 g rfl
      have hNp : 0 < N1 := by rw [HN.out, hx]; simp
      have hT3 : Tab (putOb W2.drew m o2).drew b n (.slice (some ⟨g, off, none⟩) N1 C1) m (alSet l k e) := hT2.of fun _ _ _ => rfl
      have hlen3 : (alSet l k e).length ≤ 1000000 := by
        have := alSet_length l k e
        split at this <;> omega
      have hsz2 : w.heap.size + 1 + 1 + 1 < (putOb W2.drew m o2).drew.heap.size := by simp; omega
      refine (drop_any hT3 hnd2 hlen3 _ _ (fun y => k2eq y.1 y.2 x.1.1 x.1.2) cfPut (fun W' y hW' => soPut w.heap.size b g off N1 C1 x.1 W' y ?_ ?_ hNp ?_ ?_ ?_ ?_ ?_)).mono ?_
      · rw [hW'.cell hq3m (by show w.heap.size < _; omega), World.cell?_drew, cell_putOb_ne _ _ _ _ _ hq3m, World.cell?_drew]; exact c30
      · rw [hW'.cell hbm (by show b < _; omega), World.cell?_drew, cell_putOb_ne _ _ _ _ _ hbm, World.cell?_drew]; exact cb1
      · rw [hW'.cell hgm (by simpa using hgl), World.cell?_drew, cell_putOb_ne _ _ _ _ _ hgm, World.cell?_drew]; exact hx0
      · rw [hW'.cell hgm (by simpa using hgl), World.cell?_drew, cell_putOb_ne _ _ _ _ _ hgm, World.cell?_drew]; exact hx1
      · have := hW'.size; omega
      · have := hW'.size; omega
      · have := hW'.size; have : (putOb W2.drew m o2).drew.heap.size = W2.heap.size := by simp
        omega
      rintro en w4 ⟨kv', rfl, ht, hf, ho⟩
      have hfil : (alSet l k e).filter (fun y => !k2eq y.1.1 y.1.2 x.1.1 x.1.2) = tput n l k e := by
        have e1 : ∀ y : K2 × K2, (!k2eq y.1.1 y.1.2 x.1.1 x.1.2) = !decide (y.1 = x.1) := fun y => by rw [k2eq_iff]
        simp only [e1]
        unfold tput
        rw [if_pos (by rw [← HN.out]; exact hlt), hx]
        exact filter_head x rest (by rw [← hx]; exact hnd2)
      rw [hfil] at ht
      go_wp2
      go_end0
      refine ⟨rfl, kv', ht, (hfr2.drew).step hf (fun q hq => .inl (hq.elim .inl (fun h => .inr (.inl h)))), fun q hq => .inr (by have := ho q hq; omega)⟩
    · have htp : tput n l k e = alSet l k e := by
        unfold tput
        rw [if_neg (by rw [← HN.out]; exact hlt)]
      go_wp2
      go_end0
      exact ⟨rfl, _, hT2.of fun _ _ _ => rfl, hfr2.drew, hown1⟩
  | false =>
    have hn : kv = kv := rfl
    obtain ⟨i0, hi, hz, hs, hby⟩ := info_of zeroKey
    have hlen : sliceLen kv ≤ 1000000 := by
      have h1 := h.keys.len
      rw [len_flat, List.length_map] at h1
      omega
    have c30 := cell_of_ob ob3 0
    have c40 := cell_of_ob ob4 0
    have c41 := cell_of_ob ob4 1
    have cb1 := cell_of_ob hT.blk 1
    have hkv : ∃ ao n cap, kv = .slice ao n cap ∧ ∀ a, ao = some a → a.spot = none := by
      rcases h.keys with ⟨rfl, _⟩ | ⟨g, off, n, cap, row, rfl, _⟩
      · exact ⟨none, 0, 0, rfl, fun a ha => by cases ha⟩
      · exact ⟨_, _, _, rfl, fun a ha => by cases ha; rfl⟩
    have hgq : ∀ g, kv.ownBlock = some g → g ∉ [w.heap.size, w.heap.size + 1, b] ∧ ∃ row e, ob W g = some (.cells row e (0, 0)) := fun g hg => by
      have h1 := h.keys.lt hg
      have h2 : g ≠ b := fun e => h.bk (by rw [hg, e])
      refine ⟨by simp; omega, ?_⟩
      rcases hT.keys with ⟨rfl, _⟩ | ⟨g', off, n, cap, row, rfl, ho, _⟩
      · cases hg
      · cases hg; exact ⟨_, _, ho⟩
    go_wp2
    refine wp_region_canonS [w.heap.size, w.heap.size + 1, b] kv [0, 1, 2, 3, 4, 5] [6, 7, 8, 9, 10] (by kernel_rfl) (by kernel_rfl) (by simp [ob3, ob4, hT.blk]) hkv hgq (fun K hK => ?_)
    simp only [List.map_cons, List.map_nil, List.getD_cons_succ, List.getD_cons_zero, List.cons_append, List.nil_append]
    go_wp2_with (at_builtin; go_must (
        refine wpList_app (v := kv) rfl _ _ _ rfl Try.underlying30 hi hz hs hby rfl (by decide) rfl (hT.keys.alloc _).drew W.heap.size 1 1 [.int .i64 k.1, .int .i64 k.2] rfl ((ob_drew _ _).trans (ob_new W _)) rfl (by simp [Value.oneCell']) (by decide) (by simp only [maxLen]; omega) (by omega) ?_
        intro v2 w2 hs2 hf2 ho2 hl2
        have hs3 := hs2
        obtain ⟨g2, off2, n2, cap2, rfl, hg2, _⟩ := hs3.form (by simp)
        have hbw : b < (W.alloc (.cells #[.int .i64 k.1, .int .i64 k.2] 27)).drew.heap.size := by simp; omega
        have cb2 : w2.cell? ⟨b, 1, none⟩ = some kv := by rw [hf2.cell (fun e => h.bk e) hbw, World.cell?_drew, World.cell?_alloc_lt _ _ _ hbW]; exact cb1
        have fb2 : w2.frozen? ⟨b, 1, none⟩ = false := by rw [hf2.frozen (fun e => h.bk e) hbw]; exact frozen_of_ob ((ob_drew _ _).trans ((ob_alloc _ _ _ hbW).trans hT.blk)) 1))
    refine hK _ _ (by kernel_rfl) (by simp [appIs, Act.eval]) (by simp [loadIn, Act.eval]) ?_
    clear hK K
    have hs3 := hs2
    have hszw : (W.alloc (.cells #[.int .i64 k.1, .int .i64 k.2] 27)).drew.heap.size = W.heap.size + 1 := by simp
    have hsz2 := hf2.size
    rw [hszw] at hsz2
    have hkeep : ∀ q, q < W.heap.size → kv.ownBlock ≠ some q → ob w2 q = ob W q := fun q hq hn => by
      rw [hf2.block q (by rw [hszw]; omega) hn, ob_drew, ob_alloc _ _ _ hq]
    have hown1 : ∀ q, (Value.slice (some ⟨g2, off2, none⟩) n2 cap2).ownBlock = some q → kv.ownBlock = some q ∨ w.heap.size ≤ q := fun q hq => by
      rcases ho2 with ho2 | ⟨q2, ho2, hq2⟩
      · exact .inl (ho2 ▸ hq)
      · rw [ho2] at hq; cases hq; rw [hszw] at hq2; exact .inr (by omega)
    have hgb : g2 ≠ b := fun e0 => by
      subst e0
      rcases hown1 g2 rfl with h1 | h1
      · exact h.bk h1
      · omega
    obtain ⟨W2, hW2⟩ : ∃ W2, W2 = w2.setCell ⟨b, 1, none⟩ (.slice (some ⟨g2, off2, none⟩) n2 cap2) := ⟨_, rfl⟩
    rw [← hW2]
    have hk1 : Sl W2 27 2 (.slice (some ⟨g2, off2, none⟩) n2 cap2) (((alSet l k e).map (·.1)).flatMap k2s) := by
      rw [HK.out, if_neg (by simp), List.flatMap_append, hW2]
      exact hs2.of fun q hq => ob_setCell _ _ _ _ (fun e0 => by cases hq; exact hgb e0)
    have hm1 : MapIs k2 k2 W2 m l := hT.kept.of (by
      rw [hW2, ob_setCell _ _ _ _ (fun e0 => h.bm e0.symm)]
      exact hkeep m (by omega) h.mk')
    have hb1 : ob W2 b = some (.cells #[.int .i64 n, .slice (some ⟨g2, off2, none⟩) n2 cap2, .map (some m)] 58 (0, 0)) := by
      rw [hW2]
      exact ob_setCell_same ((hkeep b hbW h.bk).trans hT.blk) _
    have hfr1 : Fr (tabS b kv m) w W2 := by
      rw [hW2]
      exact (((hfr.alloc _).drew).step hf2 (fun q hq => .inl (.inr (.inr hq)))).setCell _ _ (.inl (.inl rfl))
    have hkne : ∀ q, w.heap.size ≤ q → kv.ownBlock ≠ some q := fun q hq e0 => by have := h.keys.lt e0; omega
    have o3 : ob W2 w.heap.size = some (.cells #[.pointer (some ⟨b, 0, none⟩)] 23 (0, 0)) := by
      rw [hW2, ob_setCell _ _ _ _ (fun e0 => by dsimp only at e0; omega), hkeep _ (by omega) (hkne _ (by omega))]; exact ob3
    have o4 : ob W2 (w.heap.size + 1) = some (.cells #[.int .i64 k.1, .int .i64 k.2] 27 (0, 0)) := by
      rw [hW2, ob_setCell _ _ _ _ (fun e0 => by dsimp only at e0; omega), hkeep _ (by omega) (hkne _ (by omega))]; exact ob4
    have o5 : ob W2 (w.heap.size + 1 + 1) = some (.cells #[.int .i64 e.1, .int .i64 e.2] 29 (0, 0)) := by
      rw [hW2, ob_setCell _ _ _ _ (fun e0 => by dsimp only at e0; omega), hkeep _ (by omega) (hkne _ (by omega))]; exact ob5
    have hszL2 : w.heap.size + 1 + 1 + 1 < W2.heap.size := by rw [hW2, World.size_setCell]; omega
    obtain ⟨A1, hA1⟩ : ∃ A1, A1 = some (⟨g2, off2, none⟩ : Addr) := ⟨_, rfl⟩
    obtain ⟨N1, rfl⟩ : ∃ N1, N1 = n2 := ⟨_, rfl⟩
    obtain ⟨C1, rfl⟩ : ∃ C1, C1 = cap2 := ⟨_, rfl⟩
    rw [← hA1] at hk1 hb1 hown1 ⊢
    clear hW2 hA1 hs2 hs3 hf2 ho2 hl2 hfr hT ob3 ob4 ob5 c30 c40 c41 cb1 cb2 fb2 hbw hg2 hkeep hszw hgq hkv hgb hlen hsz2
    have hq3m : w.heap.size ≠ m := by omega
    have hq4m : w.heap.size + 1 ≠ m := by omega
    have hq5m : w.heap.size + 1 + 1 ≠ m := by omega
    have hbm : b ≠ m := h.bm
    have c30 : W2.cell? ⟨w.heap.size, 0, none⟩ = some (.pointer (some ⟨b, 0, none⟩)) := cell_of_ob o3 0
    have c40 : W2.cell? ⟨w.heap.size + 1, 0, none⟩ = some (.int .i64 k.1) := cell_of_ob o4 0
    have c41 : W2.cell? ⟨w.heap.size + 1, 1, none⟩ = some (.int .i64 k.2) := cell_of_ob o4 1
    have c50 : W2.cell? ⟨w.heap.size + 1 + 1, 0, none⟩ = some (.int .i64 e.1) := cell_of_ob o5 0
    have c51 : W2.cell? ⟨w.heap.size + 1 + 1, 1, none⟩ = some (.int .i64 e.2) := cell_of_ob o5 1
    have cb0 : W2.cell? ⟨b, 0, none⟩ = some (.int .i64 n) := cell_of_ob hb1 0
    have cb1 : W2.cell? ⟨b, 1, none⟩ = some (.slice A1 N1 C1) := cell_of_ob hb1 1
    have cb2 : W2.cell? ⟨b, 2, none⟩ = some (.map (some m)) := cell_of_ob hb1 2
    go_wp2
    refine wp_region_canon [0, 1, 2, 3, 4, 5, 6] (by kernel_rfl) (by kernel_rfl) (fun K hK => ?_)
    simp only [List.map_cons, List.map_nil, List.getD_cons_succ, List.getD_cons_zero]
    go_wp2_with (at_mapUpdate; go_must (refine wpList_upd rfl _ _ _ _ rfl rfl k rfl e rfl key_k2 Try.underlying56 (hm1.of rfl) ?_; intro o2 hm2))
    refine hK _ _ (by kernel_rfl) ?_
    clear hK K
    have hN : N1 = (alSet l k e).length := by
      have h1 := hk1.len
      rw [len_flat, List.length_map] at h1
      simp only [sliceLen] at h1
      omega
    have hnd2 := alSet_nodup l k e hnd
    have hfr2 : Fr _ w (putOb W2.drew m o2) := (hfr1.drew).putOb _ _ (.inl (.inr (.inl rfl)))
    have hown2 : ∀ q, (Value.slice A1 N1 C1).ownBlock = some q → q ≠ m := fun q hq he => by
      rcases hown1 q hq with h1 | h1
      · exact h.mk' (by rw [h1, he])
      · omega
    have hT2 : Tab (putOb W2.drew m o2) b n (.slice A1 N1 C1) m (alSet l k e) := ⟨(ob_putOb_ne _ _ _ _ hbm).trans hb1, hk1.drew.of fun q hq => ob_putOb_ne _ _ _ _ (hown2 q hq), hm2⟩
    have HN := Lib.hid hN
    clear hN hm2
    go_wp2
    refine wp_region_canon [0, 1, 2, 3, 4, 5, 6, 7, 8, 9] (by kernel_rfl) (by kernel_rfl) (fun K hK => ?_)
    simp only [List.map_cons, List.map_nil, List.getD_cons_succ, List.getD_cons_zero]
    go_wp2
    refine hK _ _ (by kernel_rfl) ?_
    clear hK K
    by_cases hlt : n < (N1 : Int)
    · go_wp2_with fail
      obtain ⟨x, rest, hx⟩ := List.exists_cons_of_ne_nil (alSet_ne l k e)
      obtain ⟨hg0, hg1⟩ := flat_get ((alSet l k e).map (·.1)) 0 x.1 (by rw [hx]; rfl)
      obtain ⟨g, off, n', cap', heq, hgl, hcs, _, _⟩ := hk1.form (by intro e0; rw [e0] at hg0; cases hg0)
      cases heq
      have hx0 := hcs _ _ hg0
      have hx1 := hcs _ _ hg1
      simp only [Nat.zero_mul, Nat.add_zero, Nat.zero_add] at hx0 hx1
      have hgm : g ≠ m := hown2 g rfl
      have hNp : 0 < N1 := by rw [HN.out, hx]; simp
      have hT3 : Tab (putOb W2.drew m o2).drew b n (.slice (some ⟨g, off, none⟩) N1 C1) m (alSet l k e) := hT2.of fun _ _ _ => rfl
      have hlen3 : (alSet l k e).length ≤ 1000000 := by
        have := alSet_length l k e
        split at this <;> omega
      have hsz2 : w.heap.size + 1 + 1 + 1 < (putOb W2.drew m o2).drew.heap.size := by simp; omega
      refine (drop_any hT3 hnd2 hlen3 _ _ (fun y => k2eq y.1 y.2 x.1.1 x.1.2) cfPut (fun W' y hW' => soPut w.heap.size b g off N1 C1 x.1 W' y ?_ ?_ hNp ?_ ?_ ?_ ?_ ?_)).mono ?_
      · rw [hW'.cell hq3m (by show w.heap.size < _; omega), World.cell?_drew, cell_putOb_ne _ _ _ _ _ hq3m, World.cell?_drew]; exact c30
      · rw [hW'.cell hbm (by show b < _; omega), World.cell?_drew, cell_putOb_ne _ _ _ _ _ hbm, World.cell?_drew]; exact cb1
      · rw [hW'.cell hgm (by simpa using hgl), World.cell?_drew, cell_putOb_ne _ _ _ _ _ hgm, World.cell?_drew]; exact hx0
      · rw [hW'.cell hgm (by simpa using hgl), World.cell?_drew, cell_putOb_ne _ _ _ _ _ hgm, World.cell?_drew]; exact hx1
      · have := hW'.size; omega
      · have := hW'.size; omega
      · have := hW'.size; have : (putOb W2.drew m o2).drew.heap.size = W2.heap.size := by simp
        omega
      rintro en w4 ⟨kv', rfl, ht, hf, ho⟩
      have hfil : (alSet l k e).filter (fun y => !k2eq y.1.1 y.1.2 x.1.1 x.1.2) = tput n l k e := by
        have e1 : ∀ y : K2 × K2, (!k2eq y.1.1 y.1.2 x.1.1 x.1.2) = !decide (y.1 = x.1) := fun y => by rw [k2eq_iff]
        simp only [e1]
        unfold tput
        rw [if_pos (by rw [← HN.out]; exact hlt), hx]
        exact filter_head x rest (by rw [← hx]; exact hnd2)
      rw [hfil] at ht
      go_wp2
      go_end0
      refine ⟨rfl, kv', ht, (hfr2.drew).step hf (fun q hq => .inl (hq.elim .inl (fun h => .inr (.inl h)))), fun q hq => .inr (by have := ho q hq; omega)⟩
    · have htp : tput n l k e = alSet l k e := by
        unfold tput
        rw [if_neg (by rw [← HN.out]; exact hlt)]
      go_wp2
      go_end0
      exact ⟨rfl, _, hT2.of fun _ _ _ => rfl, hfr2.drew, hown1⟩
end Go.Proofs.Ytehgfhcpjeepkaa
