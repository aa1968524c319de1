/- pantryref14.Pool: tidy, Ref, Pages, Get. Conditions: bounds on lengths; references as they may be. -/
import Derived.Test.YtopfknikmhkaeaaOrA
namespace Go.Proofs.Ytopfknikmhkaeaa
open Go.RowKit
set_option linter.unusedSimpArgs false
set_option linter.unusedVariables false
attribute [local go_sem] Oper.semAt_some
section
variable {w w1 : World} {b : Nat} {most : Int} {v : Value} {L : List (Option REnt)} {l : List (Option Obt)} {S : Nat → Prop} {e e' : REnt} {i j : Nat}
/-- Those that are there are set apart. -/
theorem RT.eb (h : RT w b most v L) (he : L[i]? = some (some e)) : e.1 ≠ b := ob_ne (h.one i e he).blk h.blk (by decide)
theorem RT.evb (h : RT w b most v L) {k : Nat} (hk : v.ownBlock = some k) : k ≠ b := h.row.ne hk h.blk (by decide)
theorem RT.eve (h : RT w b most v L) {k : Nat} (hk : v.ownBlock = some k) (he : L[i]? = some (some e)) : k ≠ e.1 := h.row.ne hk (h.one i e he).blk (by decide)
theorem RT.pb (h : RT w b most v L) (he : L[i]? = some (some e)) {k : Nat} (hk : e.2.1.ownBlock = some k) : k ≠ b := (h.one i e he).row.ne hk h.blk (by decide)
theorem RT.pe (h : RT w b most v L) (he : L[i]? = some (some e)) (he' : L[j]? = some (some e')) {k : Nat} (hk : e.2.1.ownBlock = some k) : k ≠ e'.1 := (h.one i e he).row.ne hk (h.one j e' he').blk (by decide)
theorem RT.pv (h : RT w b most v L) (he : L[i]? = some (some e)) {k q : Nat} (hk : e.2.1.ownBlock = some k) (hq : v.ownBlock = some q) : k ≠ q := by
  obtain ⟨row, hr⟩ := h.row.own hq
  exact (h.one i e he).row.ne hk hr (by decide)
/-- An object turns, in its block. -/
theorem RT.turn (h : RT w b most v L) (he : L[j]? = some (some e)) (h1 : e'.1 = e.1) (ho : ROT w1 e') (hf : Fr (fun q => q = e.1) w w1) : RT w1 b most v (L.set j (some e')) := by
  have hjl := (List.getElem?_eq_some_iff.1 he).1
  have hp : ptrR (L.set j (some e')) = ptrR L := by
    unfold ptrR
    rw [List.map_set]
    refine List.ext_getElem? fun i => ?_
    rw [List.getElem?_set]
    split
    · rename_i hji
      subst hji
      rw [if_pos (by simpa using hjl), List.getElem?_map, he]
      simp [h1]
    · rfl
  have hold : ∀ i (x : REnt), (L.set j (some e'))[i]? = some (some x) → (i = j ∧ x = e') ∨ (i ≠ j ∧ L[i]? = some (some x)) := fun i x hx => by
    by_cases hij : i = j
    · subst hij
      rw [List.getElem?_set_self hjl] at hx
      cases hx
      exact .inl ⟨rfl, rfl⟩
    · rw [List.getElem?_set_ne (fun h => hij h.symm)] at hx
      exact .inr ⟨hij, hx⟩
  refine ⟨hf.keep (h.eb he).symm h.blk, by rw [hp]; exact Sl.fr h.row hf (fun k hk => h.eve hk he), fun i x hx => ?_, fun i k x y hx hy hxy => ?_⟩
  · rcases hold i x hx with ⟨rfl, rfl⟩ | ⟨hij, hx⟩
    · exact ho
    · exact (h.one i x hx).fr hf (fun hk => hij (h.inj _ _ _ _ hx he hk)) (fun k hk => h.pe hx he hk)
  · rcases hold i x hx with ⟨rfl, hxe⟩ | ⟨hij, hx2⟩ <;> rcases hold k y hy with ⟨rfl, hye⟩ | ⟨hkj, hy2⟩
    · rfl
    · exact h.inj _ _ _ _ he hy2 (by rw [← h1, ← hxe, hxy])
    · exact h.inj _ _ _ _ hx2 he (by rw [hxy, hye, h1])
    · exact h.inj _ _ _ _ hx2 hy2 hxy
theorem RS_turn (he : L[j]? = some (some e)) (h1 : e'.1 = e.1) {k : Nat} (hk : RS b v (L.set j (some e')) k) : RS b v L k ∨ e'.2.1.ownBlock = some k := by
  have hjl := (List.getElem?_eq_some_iff.1 he).1
  rcases hk with h | h | ⟨i, x, hx, h⟩
  · exact .inl (.inl h)
  · exact .inl (.inr (.inl h))
  · by_cases hij : i = j
    · subst hij
      rw [List.getElem?_set_self hjl] at hx
      cases hx
      rcases h with h | h
      · exact .inl (.inr (.inr ⟨i, e, he, .inl (by rw [h, h1])⟩))
      · exact .inr h
    · rw [List.getElem?_set_ne (fun h => hij h.symm)] at hx
      exact .inl (.inr (.inr ⟨i, x, hx, h⟩))
/-- A slot of the row turns. -/
theorem RT.slot (h : RT w b most v L) {o : Option REnt} (hb : ob w1 b = ob w b) (hr : Sl w1 86 1 v (ptrR (L.set j o))) (hf : Fr (fun q => v.ownBlock = some q) w w1)
    (ho : ∀ x, o = some x → ROT w1 x ∧ ∀ (i : Nat) (e : REnt), L[i]? = some (some e) → e.1 ≠ x.1) : RT w1 b most v (L.set j o) := by
  have hold : ∀ i (x : REnt), (L.set j o)[i]? = some (some x) → (i = j ∧ o = some x) ∨ (i ≠ j ∧ L[i]? = some (some x)) := fun i x hx => by
    by_cases hij : i = j
    · subst hij
      rw [List.getElem?_set] at hx
      simp only [if_true] at hx
      split at hx
      · cases hx; exact .inl ⟨rfl, rfl⟩
      · cases hx
    · rw [List.getElem?_set_ne (fun h => hij h.symm)] at hx
      exact .inr ⟨hij, hx⟩
  refine ⟨hb.trans h.blk, hr, fun i x hx => ?_, fun i k x y hx hy hxy => ?_⟩
  · rcases hold i x hx with ⟨rfl, rfl⟩ | ⟨hij, hx⟩
    · exact (ho x rfl).1
    · exact (h.one i x hx).fr hf (fun hk => (h.eve hk hx) rfl) (fun k hk hq => h.pv hx hk hq rfl)
  · rcases hold i x hx with ⟨rfl, hxo⟩ | ⟨hij, hx2⟩ <;> rcases hold k y hy with ⟨rfl, hyo⟩ | ⟨hkj, hy2⟩
    · rfl
    · exact ((ho x hxo).2 _ _ hy2 hxy.symm).elim
    · exact ((ho y hyo).2 _ _ hx2 hxy).elim
    · exact h.inj _ _ _ _ hx2 hy2 hxy
theorem RS_slot {o : Option REnt} {k : Nat} (hk : RS b v (L.set j o) k) : RS b v L k ∨ ∃ x, o = some x ∧ (k = x.1 ∨ x.2.1.ownBlock = some k) := by
  rcases hk with h | h | ⟨i, x, hx, h⟩
  · exact .inl (.inl h)
  · exact .inl (.inr (.inl h))
  · by_cases hij : i = j
    · subst hij
      rw [List.getElem?_set] at hx
      simp only [if_true] at hx
      split at hx
      · cases hx; exact .inr ⟨x, rfl, h⟩
      · cases hx
    · rw [List.getElem?_set_ne (fun h => hij h.symm)] at hx
      exact .inl (.inr (.inr ⟨i, x, hx, h⟩))
theorem outR_set (L : List (Option REnt)) (j : Nat) (o : Option REnt) : outR (L.set j o) = (outR L).set j (o.map (·.2.2)) := by unfold outR; rw [List.map_set]
theorem outR_len (L : List (Option REnt)) : (outR L).length = L.length := by simp [outR]
theorem outR_get (L : List (Option REnt)) (j : Nat) : (outR L)[j]? = (L[j]?).map fun o => o.map (·.2.2) := by unfold outR; rw [List.getElem?_map]
/-- An object that has nothing is gone. -/
def rtidyR (l : List (Option Obt)) (id : Int) : List (Option Obt) := match rgetR l id with
  | some o => if o.2.1 = 0 ∧ o.2.2 = [] then l.set (id - 1).toNat none else l
  | none => l
def rtidyE (L : List (Option REnt)) (id : Int) : List (Option REnt) := match rgetR L id with
  | some o => if o.2.2.2.1 = 0 ∧ o.2.2.2.2 = [] then L.set (id - 1).toNat none else L
  | none => L
theorem rtidy_out (L : List (Option REnt)) (id : Int) : outR (rtidyE L id) = rtidyR (outR L) id := by
  unfold rtidyE rtidyR
  rw [rgetR_out]
  cases rgetR L id with
  | none => rfl
  | some e =>
    simp only [Option.map_some]
    split
    · rw [outR_set]; rfl
    · rfl
theorem ptrR_set (L : List (Option REnt)) (j : Nat) (o : Option REnt) : ptrR (L.set j o) = (ptrR L).set j (ptrV (o.map (·.1))) := by unfold ptrR; rw [List.map_set]
theorem sl_set1 {A : Option Addr} {N C g off : Nat} {e : TypeId} {cs : List Value} (h : Sl w e 1 (.slice A N C) cs) (hA : A = some ⟨g, off, none⟩) {j : Nat} (hj : j < cs.length) (u : Value) :
    Sl (w.setCell ⟨g, off + j, none⟩ u) e 1 (.slice A N C) (cs.set j u) := by
  subst hA
  have h1 := Sl.put h j [u] (by simpa [Nat.succ_le_iff] using hj)
  have h2 : cs.set j u = cs.take j ++ [u] ++ cs.drop (j + [u].length) := by
    rw [List.set_eq_take_append_cons_drop, if_pos hj]; simp
  rw [h2]
  exact h1
set_option maxRecDepth 100000 in
set_option maxHeartbeats 2000000 in
theorem rotidy_any (h : RT w b most v L) (hl : L.length ≤ 5000) (id : Int) :
    Calls Try.prog 39 #[.pointer (some ⟨b, 0, none⟩), .int .i64 id] w fun e w' => e = .returned (.tuple #[]) ∧ RT w' b most v (rtidyE L id) ∧ Fr (fun q => v.ownBlock = some q) w w' := by
  cases he : rgetR L id with
  | none =>
    have ht : rtidyE L id = L := by unfold rtidyE; rw [he]
    rw [ht]
    have hob := robj_any h hl id none (by rw [he]; rfl)
    clear ht he
    go_enter Try.func39, Try.ntmps39
    go_wp2_with fail
    refine hob.mono ?_
    rintro e w1 ⟨rfl, rfl⟩
    simp only [ptrV, Option.map_none]
    go_wp2
    go_end0
    exact ⟨rfl, h, Fr.refl _ _⟩
  | some e =>
    have hob := robj_any h hl id (some e.1) (by rw [he]; rfl)
    obtain ⟨j, rfl, hj⟩ := rgetR_some he
    have hT : rtidyE L ((j : Int) + 1) = if e.2.2.2.1 = 0 ∧ e.2.2.2.2 = [] then L.set j none else L := by
      unfold rtidyE; rw [he, show ((j : Int) + 1 - 1).toNat = j by omega]
    rw [hT]
    obtain ⟨q, u, f, n, pgs⟩ := e
    obtain ⟨hq, hu⟩ := h.one j _ hj
    dsimp only at hq hu ⊢
    have hql := ob_lt hq
    have hbl := ob_lt h.blk
    have d1 : w.cell? ⟨q, 1, none⟩ = some (.int .i64 n) := cell_of_ob hq 1
    have d2 : w.cell? ⟨q, 2, none⟩ = some u := cell_of_ob hq 2
    obtain ⟨A2, N2, C2, rfl⟩ := hu.shape
    have hN2 : N2 = pgs.length := Sl.recN atE_len (by omega) hu
    have hlen := h.elen
    obtain ⟨g, off, N, C, rfl, hgl, hfz, cj⟩ := h.item hj
    simp only [sliceLen] at hlen
    have hjL : j < L.length := (List.getElem?_eq_some_iff.1 hj).1
    have hjN : j < N := by omega
    have hN5 : N ≤ 5000 := by omega
    have c1 : w.cell? ⟨b, 1, none⟩ = some (.slice (some ⟨g, off, none⟩) N C) := cell_of_ob h.blk 1
    have fj := hfz (off + j)
    have HJ := Lib.hid hj
    have HJL := Lib.hid hjL
    clear hT he hj hfz hlen hjL
    simp only [ptrV, Option.map_some] at cj
    by_cases hn : n = 0
    · subst hn
      by_cases hp : pgs = []
      · subst hp
        obtain rfl : N2 = 0 := hN2
        rw [if_pos ⟨rfl, rfl⟩]
        have hset := sl_set1 (u := .pointer none) h.row rfl (j := j) (by unfold ptrR; have := HJL.out; simpa using this)
        have HW := Lib.hid (show RT (w.setCell ⟨g, off + j, none⟩ (.pointer none)) b most (.slice (some ⟨g, off, none⟩) N C) (L.set j none) ∧ Fr (fun q => (Value.slice (some ⟨g, off, none⟩) N C).ownBlock = some q) w (w.setCell ⟨g, off + j, none⟩ (.pointer none)) from by
          have hf : Fr (fun q => (Value.slice (some ⟨g, off, none⟩) N C).ownBlock = some q) w (w.setCell ⟨g, off + j, none⟩ (.pointer none)) := (Fr.refl _ w).setCell _ _ (.inl rfl)
          refine ⟨h.slot (hf.block _ hbl (fun hk => h.evb hk rfl)) ?_ hf (fun x hx => by cases hx), hf⟩
          rw [ptrR_set]
          exact hset)
        clear hset hu
        go_enter Try.func39, Try.ntmps39
        go_wp2_with fail
        refine hob.mono ?_
        rintro e w1 ⟨rfl, rfl⟩
        simp only [ptrV, Option.map_some]
        go_wp2
        go_end0
        exact ⟨rfl, HW.out.1, HW.out.2⟩
      · rw [if_neg (fun h => hp h.2)]
        have hl : 0 < pgs.length := List.length_pos_iff.2 hp
        have hl2 : 0 < N2 := by omega
        have hl3 : ¬ (N2 : Int) = 0 := by omega
        clear hp hl hN2
        go_enter Try.func39, Try.ntmps39
        go_wp2_with fail
        refine hob.mono ?_
        rintro e w1 ⟨rfl, rfl⟩
        simp only [ptrV, Option.map_some]
        go_wp2
        go_end0
        exact ⟨rfl, h, Fr.refl _ _⟩
    · rw [if_neg (fun h => hn h.1)]
      go_enter Try.func39, Try.ntmps39
      go_wp2_with fail
      refine hob.mono ?_
      rintro e w1 ⟨rfl, rfl⟩
      simp only [ptrV, Option.map_some]
      go_wp2
      go_end0
      exact ⟨rfl, h, Fr.refl _ _⟩
theorem RS_tidy {id : Int} {k : Nat} (hk : RS b v (rtidyE L id) k) : RS b v L k := by
  unfold rtidyE at hk
  split at hk
  · split at hk
    · rcases RS_slot hk with h | ⟨x, hx, _⟩
      · exact h
      · cases hx
    · exact hk
  · exact hk
theorem rotidy_rx (h0 : ORX b most l w S) (hl : l.length ≤ 5000) (id : Int) :
    Calls Try.prog 39 #[.pointer (some ⟨b, 0, none⟩), .int .i64 id] w fun e w' => e = .returned (.tuple #[]) ∧ ORX b most (rtidyR l id) w' S ∧ Fr S w w' := by
  obtain ⟨v, L, h, rfl, hS⟩ := h0
  refine (rotidy_any h (by rw [outR_len] at hl; exact hl) id).mono ?_
  rintro e w' ⟨rfl, h', hf⟩
  exact ⟨rfl, ⟨v, _, h', rtidy_out L id, fun k hk => hS k (RS_tidy hk)⟩, hf.mono' (fun k hk => hS k (.inr (.inl hk)))⟩
/-! ### Pages -/
def inR (q : List (Int × Pg)) (lo hi : Int) : List (Int × Pg) := q.filter fun x => decide (lo ≤ x.1) && decide (x.1 < hi)
def rpagesR (l : List (Option Obt)) (id lo hi : Int) : List (Int × Pg) := match rgetR l id with
  | some o => inR o.2.2 lo hi
  | none => []
theorem inR_snoc {q : List (Int × Pg)} {j : Nat} {x : Int × Pg} (h : q[j]? = some x) (lo hi : Int) : inR (q.take (j + 1)) lo hi = inR (q.take j) lo hi ++ if lo ≤ x.1 ∧ x.1 < hi then [x] else [] := by
  unfold inR
  rw [List.take_add_one, h, Option.toList_some, List.filter_append]
  by_cases h1 : lo ≤ x.1 <;> by_cases h2 : x.1 < hi <;> simp [h1, h2]
theorem inR_len (q : List (Int × Pg)) (lo hi : Int) : (inR q lo hi).length ≤ q.length := List.length_filter_le _ _
set_option maxRecDepth 100000 in
set_option maxHeartbeats 4000000 in
theorem ropages_any (h : RT w b most v L) (hl : L.length ≤ 5000) (id lo hi : Int) (hp : ∀ o, rgetR (outR L) id = some o → o.2.2.length ≤ 5000) :
    Calls Try.prog 30 #[.pointer (some ⟨b, 0, none⟩), .int .i64 id, .int .i64 lo, .int .i64 hi] w fun e w' =>
      ∃ A N C, e = .returned (.slice A N C) ∧ Sl w' 64 4 (.slice A N C) ((rpagesR (outR L) id lo hi).flatMap atE) ∧ (∀ k, (Value.slice A N C).ownBlock = some k → w.heap.size ≤ k) ∧ Fr (fun _ => False) w w' := by
  unfold rpagesR
  rw [rgetR_out] at hp ⊢
  cases he : rgetR L id with
  | none =>
    have hob := robj_any h hl id none (by rw [he]; rfl)
    clear he hp
    simp only [Option.map_none]
    go_enter Try.func30, Try.ntmps30
    go_wp2_with fail
    refine hob.mono ?_
    rintro e w1 ⟨rfl, rfl⟩
    simp only [ptrV, Option.map_none]
    go_wp2
    go_ret
    exact ⟨_, _, _, rfl, Sl.nil _ _ _, fun k hk => (by cases hk), Fr.refl _ _⟩
  | some e =>
    have hob := robj_any h hl id (some e.1) (by rw [he]; rfl)
    obtain ⟨j, -, hj⟩ := rgetR_some he
    have hp5 := hp _ (by rw [he]; rfl)
    obtain ⟨q, u, f, n, pgs⟩ := e
    obtain ⟨hq, hu⟩ := h.one j _ hj
    dsimp only at hq hu hp5
    simp only [Option.map_some]
    have hql := ob_lt hq
    have d2 : w.cell? ⟨q, 2, none⟩ = some u := cell_of_ob hq 2
    obtain ⟨A, N, C, rfl⟩ := hu.shape
    have hN : N = pgs.length := Sl.recN atE_len (by omega) hu
    have HN := Lib.hid hN
    have hN5 : N ≤ 5000 := by omega
    obtain ⟨i0, hi0, hz, hsz, hby⟩ := oinfo infoOA
    clear he hp hj hN hp5 hq
    go_enter Try.func30, Try.ntmps30
    go_wp2_with fail
    refine hob.mono ?_
    rintro e w1 ⟨rfl, rfl⟩
    clear hob
    simp only [ptrV, Option.map_some]
    go_wp2_with fail
    go_loopw [9, 23] (fun sl si wr => ∃ (t : Nat), t ≤ N ∧ si = .int .i64 t ∧ Sl wr 64 4 sl ((inR (pgs.take t) lo hi).flatMap atE) ∧ Hid (Fr (fun _ => False) w wr ∧ ∀ k, sl.ownBlock = some k → w.heap.size ≤ k)) (fun _ si _ => N - (intOf si).toNat)
    case atStart => exact ⟨0, by omega, rfl, Sl.nil _ _ _, Lib.hid ⟨Fr.refl _ _, fun k hk => (by cases hk)⟩⟩
    case round =>
      obtain ⟨t, ht, rfl, hsl, HI⟩ := hrel
      by_cases hlt : t < N
      · obtain ⟨x, hx⟩ : ∃ x, pgs[t]? = some x := ⟨_, List.getElem?_eq_getElem (by have := HN.out; omega)⟩
        obtain ⟨g, off, n', cap', heq, hgl, hgz, hcs⟩ := Sl.recAt atE_len (by omega) (Sl.fr hu HI.out.1 (fun _ _ h => h)) hx
        cases heq
        obtain ⟨x0, x1, x2, x3⟩ := x
        have c0 : wr.cell? ⟨g, off + t * 4, none⟩ = some (.int .i64 x0) := hcs 0 _ rfl
        have c1 : wr.cell? ⟨g, off + t * 4 + 1, none⟩ = some (.int .i64 x1) := hcs 1 _ rfl
        have c2 : wr.cell? ⟨g, off + t * 4 + 2, none⟩ = some (.int .i64 x2) := hcs 2 _ rfl
        have c3 : wr.cell? ⟨g, off + t * 4 + 3, none⟩ = some (.bool x3) := hcs 3 _ rfl
        have HX := Lib.hid (inR_snoc hx lo hi)
        have hlr : (inR (pgs.take t) lo hi).length ≤ 5000 := by have := inR_len (pgs.take t) lo hi; rw [List.length_take] at this; omega
        obtain ⟨A2, N2, C2, rfl⟩ := hsl.shape
        have hN2 : N2 ≤ 5000 := by have := Sl.recN atE_len (by omega) hsl; omega
        clear hx hcs hgz
        by_cases hlo : lo ≤ x0
        · by_cases hhi : x0 < hi
          · have HX2 : Hid (inR (pgs.take (t + 1)) lo hi = inR (pgs.take t) lo hi ++ [(x0, x1, x2, x3)]) := Lib.hid (by rw [HX.out, if_pos ⟨hlo, hhi⟩])
            go_wp2_with (at_builtin; go_must (refine wpList_app (v := .slice A2 N2 C2) rfl _ _ _ rfl Try.underlying61 hi0 hz hsz hby rfl (by decide) rfl ((hsl.alloc _).alloc _) (wr.heap.size + 1) 1 1 [.int .i64 x0, .int .i64 x1, .int .i64 x2, .bool x3] rfl (ob_newAt _ _ _ (by simp)) rfl (by simp [Value.oneCell']) (by decide) (by simp only [maxLen, sliceLen]; omega) (by simp only [sliceLen]; omega) ?_; intro v2 w5 hs5 hf5 ho5 hl5; obtain ⟨A5, N5, C5, rfl⟩ := hs5.shape))
            go_roundw
            case rel =>
              refine ⟨t + 1, by omega, by go_num, ?_, Lib.hid ⟨((HI.out.1.alloc _).alloc _).step hf5 (fun k hk => .inr (HI.out.2 k hk)), fun k hk => ?_⟩⟩
              · rw [HX2.out, recs_snoc]
                exact hs5
              · rcases ho5 with h1 | ⟨q, h1, h2⟩
                · rw [h1] at hk; exact HI.out.2 k hk
                · rw [h1] at hk; cases hk; have := HI.out.1.size; simp at h2; omega
            case measure => simp [intOf]; omega
          · have HX2 : Hid (inR (pgs.take (t + 1)) lo hi = inR (pgs.take t) lo hi) := Lib.hid (by rw [HX.out, if_neg (fun h => hhi h.2), List.append_nil])
            go_wp2
            go_roundw
            case rel => exact ⟨t + 1, by omega, by go_num, by rw [HX2.out]; exact hsl.alloc _, Lib.hid ⟨HI.out.1.alloc _, HI.out.2⟩⟩
            case measure => simp [intOf]; omega
        · have HX2 : Hid (inR (pgs.take (t + 1)) lo hi = inR (pgs.take t) lo hi) := Lib.hid (by rw [HX.out, if_neg (fun h => hlo h.1), List.append_nil])
          go_wp2
          go_roundw
          case rel => exact ⟨t + 1, by omega, by go_num, by rw [HX2.out]; exact hsl.alloc _, Lib.hid ⟨HI.out.1.alloc _, HI.out.2⟩⟩
          case measure => simp [intOf]; omega
      · obtain rfl : t = N := by omega
        have hall : pgs.take t = pgs := by rw [HN.out, List.take_length]
        rw [hall] at hsl
        clear hall
        obtain ⟨A5, N5, C5, rfl⟩ := hsl.shape
        go_wp2
        go_ret
        exact ⟨_, _, _, rfl, hsl, HI.out.2, HI.out.1⟩
/-- Pages are few enough. -/
def RFew (l : List (Option Obt)) : Prop := l.length ≤ 5000 ∧ ∀ id o, rgetR l id = some o → o.2.2.length ≤ 5000
def rgetP (l : List (Option Obt)) (id ix : Int) : Option Pg := ((rpagesR l id 0 4096).find? fun x => decide (x.1 = ix)).map (·.2)
set_option maxRecDepth 100000 in
set_option maxHeartbeats 4000000 in
theorem roget_any (h0 : ORX b most l w S) (hl : RFew l) (id ix : Int) :
    Calls Try.prog 25 #[.pointer (some ⟨b, 0, none⟩), .int .i64 id, .int .i64 ix] w fun e w' =>
      e = .returned (.tuple #[pgV ((rgetP l id ix).getD (0, 0, false)), .bool (rgetP l id ix).isSome]) ∧ Fr (fun _ => False) w w' := by
  obtain ⟨v, L, h, rfl, hS⟩ := h0
  obtain ⟨w1, hw1⟩ : ∃ w1, w.alloc (.cells #[.int .i64 0, .int .i64 0, .bool false] 57) = w1 := ⟨_, rfl⟩
  obtain ⟨ro, hro⟩ : ∃ ro, w.heap.size = ro := ⟨_, rfl⟩
  have hf1 : Fr (fun _ => False) w w1 := by rw [← hw1]; exact (Fr.refl _ w).alloc _
  have oo : ob w1 ro = some (.cells #[.int .i64 0, .int .i64 0, .bool false] 57 (0, 0)) := by rw [← hw1, ← hro]; exact ob_new _ _
  have HRO : Hid (w.heap.size ≤ ro) := Lib.hid (by omega)
  have hpg := ropages_any (h.keep hf1) (by have := hl.1; rw [outR_len] at this; exact this) id 0 4096 (fun o ho => hl.2 id o ho)
  have hlq : (rpagesR (outR L) id 0 4096).length ≤ 5000 := by
    unfold rpagesR
    cases hg : rgetR (outR L) id with
    | none => simp
    | some o => have := inR_len o.2.2 0 4096; have := hl.2 id o hg; simp only; omega
  obtain ⟨G, hG⟩ : ∃ G, G = rgetP (outR L) id ix := ⟨_, rfl⟩
  rw [← hG]
  unfold rgetP at hG
  obtain ⟨q, hq⟩ : ∃ q, rpagesR (outR L) id 0 4096 = q := ⟨_, rfl⟩
  rw [hq] at hG hpg hlq
  have HGG := Lib.hid hG
  clear hG hq h
  go_enter Try.func25, Try.ntmps25
  go_wp2_with fail
  try rw [hw1]
  refine hpg.mono ?_
  rintro e w2 ⟨A, N, C, rfl, hs2, ho2, hf2⟩
  clear hpg hw1
  have hN : N = q.length := Sl.recN atE_len (by omega) hs2
  have HN := Lib.hid hN
  have hN5 : N ≤ 5000 := by omega
  have hroA : ∀ k, (Value.slice A N C).ownBlock = some k → k ≠ ro := fun k hk => by have := ho2 k hk; have := ob_lt oo; omega
  have HRA := Lib.hid hroA
  have oo2 := hf2.keep (fun h => h) oo
  have hf02 := hf1.step hf2 (fun _ h => h.elim)
  clear hN hlq hroA ho2 hf1 hf2 oo
  go_wp2_with fail
  go_loopw [14] (fun si wr => ∃ (t : Nat), t ≤ N ∧ si = .int .i64 t ∧ Fr (fun _ => False) w2 wr ∧ Hid (G = ((q.drop t).find? fun x => decide (x.1 = ix)).map (·.2))) (fun si _ => N - (intOf si).toNat)
  case atStart => exact ⟨0, by omega, rfl, Fr.refl _ _, Lib.hid HGG.out⟩
  case round =>
    obtain ⟨t, ht, rfl, hfr, HF⟩ := hrel
    have oor := hfr.keep (fun h => h) oo2
    have g0 := cell_of_ob oor 0
    have g1 := cell_of_ob oor 1
    have g2 := cell_of_ob oor 2
    have z0 := frozen_of_ob oor 0
    have z1 := frozen_of_ob oor 1
    have z2 := frozen_of_ob oor 2
    have sor := ob_lt oor
    have hf0r := hf02.step hfr (fun _ h => h.elim)
    by_cases hlt : t < N
    · have htl : t < q.length := by have := HN.out; omega
      obtain ⟨x, hx⟩ : ∃ x, q[t]? = some x := ⟨_, List.getElem?_eq_getElem htl⟩
      obtain ⟨g, off, n', cap', heq, hgl, hgz, hcs⟩ := Sl.recAt atE_len (by omega) (Sl.fr hs2 hfr (fun _ _ h => h)) hx
      cases heq
      have hdrop : q.drop t = x :: q.drop (t + 1) := by
        rw [List.drop_eq_getElem_cons htl]
        have : q[t] = x := by have := List.getElem?_eq_getElem htl; rw [hx] at this; exact (Option.some.inj this).symm
        rw [this]
      have hfd := HF.out
      rw [hdrop, List.find?_cons] at hfd
      obtain ⟨x0, x1, x2, x3⟩ := x
      have HFD := Lib.hid hfd
      have c0 : wr.cell? ⟨g, off + t * 4, none⟩ = some (.int .i64 x0) := hcs 0 _ rfl
      have c1 : wr.cell? ⟨g, off + t * 4 + 1, none⟩ = some (.int .i64 x1) := hcs 1 _ rfl
      have c2 : wr.cell? ⟨g, off + t * 4 + 2, none⟩ = some (.int .i64 x2) := hcs 2 _ rfl
      have c3 : wr.cell? ⟨g, off + t * 4 + 3, none⟩ = some (.bool x3) := hcs 3 _ rfl
      have hgro : g ≠ ro := HRA.out g rfl
      clear hx hcs hgz hdrop hfd HF
      by_cases hxi : x0 = ix
      · have HG1 : Hid (G = some (x1, x2, x3)) := Lib.hid (by have := HFD.out; simpa [hxi] using this)
        have hsro : ro < wr.heap.size + 1 := by omega
        have HF3 := Lib.hid (show ∀ o, Fr (fun _ => False) w _ from fun o => (((hf0r.setCell ⟨ro, 0, none⟩ (.int .i64 x1) (.inr HRO.out)).setCell ⟨ro, 1, none⟩ (.int .i64 x2) (.inr HRO.out)).setCell ⟨ro, 2, none⟩ (.bool x3) (.inr HRO.out)).alloc o)
        clear hf0r hfr hf02
        go_wp2_with fail
        rw [HG1.out]
        refine bodyPost_ret (v := .tuple #[.agg #[.int .i64 x1, .int .i64 x2, .bool x3], .bool true]) (by simp [results, Try.results25, go_sem, *]) rfl ⟨rfl, HF3.out _⟩
      · have HG1 : Hid (G = ((q.drop (t + 1)).find? fun x => decide (x.1 = ix)).map (·.2)) := Lib.hid (by have := HFD.out; simpa [hxi] using this)
        have hxb : (x0 == ix) = false := by simp [hxi]
        clear hxi hf0r
        go_wp2
        go_roundw
        case rel => exact ⟨t + 1, by omega, by go_num, hfr.alloc _, HG1⟩
        case measure => simp [intOf]; omega
    · obtain rfl : t = N := by omega
      have HG1 : Hid (G = none) := Lib.hid (by rw [HF.out, List.drop_eq_nil_of_le (by rw [HN.out]; omega)]; rfl)
      have hf3 := ((hf0r.setCell ⟨ro, 0, none⟩ (.int .i64 0) (.inr HRO.out)).setCell ⟨ro, 1, none⟩ (.int .i64 0) (.inr HRO.out)).setCell ⟨ro, 2, none⟩ (.bool false) (.inr HRO.out)
      have HF3 := Lib.hid hf3
      clear hf3 hf0r hfr hf02
      go_wp2_with fail
      rw [HG1.out]
      refine bodyPost_ret (v := .tuple #[.agg #[.int .i64 0, .int .i64 0, .bool false], .bool false]) (by simp [results, Try.results25, go_sem, *]) rfl ⟨rfl, HF3.out⟩
end
end Go.Proofs.Ytopfknikmhkaeaa
