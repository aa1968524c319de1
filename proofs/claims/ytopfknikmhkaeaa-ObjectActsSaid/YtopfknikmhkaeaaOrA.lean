/- pantryref14.Pool in memory: New, Object, Ids, Of, File. Conditions: bounds on lengths. -/
import Derived.Test.YtopfknikmhkaeaaObH
import Derived.Test.YtopfknikmhkaeaaObE
import Derived.Test.YtopfknikmhkaeaaRecs
import Derived.Test.YtopfknikmhkaeaaIntsG
namespace Go.Proofs.Ytopfknikmhkaeaa
open Go.RowKit
set_option linter.unusedSimpArgs false
set_option linter.unusedVariables false
attribute [local go_sem] Oper.semAt_some
def atE (x : Int × Pg) : List Value := [.int .i64 x.1, .int .i64 x.2.1, .int .i64 x.2.2.1, .bool x.2.2.2]
theorem atE_len (x : Int × Pg) : (atE x).length = 4 := rfl
theorem atE_one (l : List (Int × Pg)) : ∀ u ∈ l.flatMap atE, u.oneCell' = true := recs_one (fun x u hu => by
  simp [atE] at hu
  rcases hu with rfl | rfl | rfl | rfl <;> rfl) l
theorem infoOA : (Try.prog.info? 64).map (fun i => (i.zero, i.size, i.bytes)) = some (some (.agg #[.int .i64 0, .int .i64 0, .int .i64 0, .bool false]), 4, 32) := by kernel_rfl
theorem infoOP : (Try.prog.info? 86).map (fun i => (i.zero, i.size, i.bytes)) = some (some (.pointer none), 1, 8) := by kernel_rfl
theorem infoOI : (Try.prog.info? 3).map (fun i => (i.zero, i.size, i.bytes)) = some (some (.int .i64 0), 1, 8) := by kernel_rfl
theorem oinfo {e : TypeId} {z : Value} {s b : Nat} (h : (Try.prog.info? e).map (fun i => (i.zero, i.size, i.bytes)) = some (some z, s, b)) : ∃ i, Try.prog.info? e = some i ∧ i.zero = some z ∧ i.size = s ∧ i.bytes = b := by
  cases hi : Try.prog.info? e with
  | none => rw [hi] at h; cases h
  | some i =>
    rw [hi] at h
    simp only [Option.map_some, Option.some.injEq, Prod.mk.injEq] at h
    exact ⟨i, rfl, h.1, h.2.1, h.2.2⟩
theorem Sl.own {w : World} {e : TypeId} {sz : Nat} {v : Value} {cs : List Value} (h : Sl w e sz v cs) {k : Nat} (hk : v.ownBlock = some k) : ∃ row, ob w k = some (.cells row e (0, 0)) := by
  rcases h with ⟨rfl, _⟩ | ⟨g, off, n, cap, row, rfl, ho, _⟩
  · cases hk
  · cases hk; exact ⟨row, ho⟩
theorem Sl.ne {w : World} {e : TypeId} {sz : Nat} {v : Value} {cs : List Value} (h : Sl w e sz v cs) {k q : Nat} (hk : v.ownBlock = some k) {c : Array Value} {t : TypeId} {f : Nat × Nat} (ho : ob w q = some (.cells c t f)) (hne : e ≠ t) : k ≠ q := fun e1 => by
  obtain ⟨row, hr⟩ := h.own hk
  rw [e1, ho] at hr
  cases hr
  exact hne rfl
theorem ob_ne {w : World} {p q : Nat} {c c2 : Array Value} {t t2 : TypeId} {f f2 : Nat × Nat} (h : ob w p = some (.cells c t f)) (h2 : ob w q = some (.cells c2 t2 f2)) (hne : t ≠ t2) : p ≠ q := fun e => by
  rw [e, h2] at h
  cases h
  exact hne rfl
/-- An object of the document's: its block, its pages' slice, what it is. -/
abbrev REnt := Nat × Value × Obt
structure ROT (w : World) (e : REnt) : Prop where
  blk : ob w e.1 = some (.cells #[.int .i64 e.2.2.1, .int .i64 e.2.2.2.1, e.2.1] 88 (0, 0))
  row : Sl w 64 4 e.2.1 (e.2.2.2.2.flatMap atE)
def ptrR (L : List (Option REnt)) : List Value := L.map fun e => ptrV (e.map (·.1))
def outR (L : List (Option REnt)) : List (Option Obt) := L.map fun e => e.map (·.2.2)
structure RT (w : World) (b : Nat) (most : Int) (v : Value) (L : List (Option REnt)) : Prop where
  blk : ob w b = some (.cells #[.int .i64 most, v] 85 (0, 0))
  row : Sl w 86 1 v (ptrR L)
  one : ∀ (i : Nat) e, L[i]? = some (some e) → ROT w e
  inj : ∀ (i j : Nat) e1 e2, L[i]? = some (some e1) → L[j]? = some (some e2) → e1.1 = e2.1 → i = j
def RS (b : Nat) (v : Value) (L : List (Option REnt)) (k : Nat) : Prop := k = b ∨ v.ownBlock = some k ∨ ∃ (i : Nat) (e : REnt), L[i]? = some (some e) ∧ (k = e.1 ∨ e.2.1.ownBlock = some k)
section
variable {w w1 : World} {b : Nat} {most : Int} {v : Value} {L : List (Option REnt)} {l : List (Option Obt)} {S : Nat → Prop} {e : REnt} {i : Nat}
theorem ROT.fr (h : ROT w e) (hf : Fr S w w1) (h1 : ¬ S e.1) (h2 : ∀ k, e.2.1.ownBlock = some k → ¬ S k) : ROT w1 e := ⟨hf.keep h1 h.blk, Sl.fr h.row hf h2⟩
theorem RT.lt (h : RT w b most v L) {k : Nat} (hk : RS b v L k) : k < w.heap.size := by
  rcases hk with rfl | hk | ⟨i, e, he, rfl | hk⟩
  · exact ob_lt h.blk
  · exact Sl.lt h.row hk
  · exact ob_lt (h.one i e he).blk
  · exact Sl.lt (h.one i e he).row hk
theorem RT.fr (h : RT w b most v L) (hf : Fr S w w1) (hn : ∀ k, RS b v L k → ¬ S k) : RT w1 b most v L :=
  ⟨hf.keep (hn b (.inl rfl)) h.blk, Sl.fr h.row hf (fun k hk => hn k (.inr (.inl hk))), fun i e he => (h.one i e he).fr hf (hn _ (.inr (.inr ⟨i, e, he, .inl rfl⟩))) (fun k hk => hn k (.inr (.inr ⟨i, e, he, .inr hk⟩))), h.inj⟩
theorem RT.keep (h : RT w b most v L) (hf : Fr (fun _ => False) w w1) : RT w1 b most v L := h.fr hf (fun _ _ h => h)
def ORX (b : Nat) (most : Int) (l : List (Option Obt)) : Thing := fun w S => ∃ v L, RT w b most v L ∧ outR L = l ∧ ∀ k, RS b v L k → S k
theorem ORX.steady (b : Nat) (most : Int) (l : List (Option Obt)) : Steady (ORX b most l) where
  fr := fun ⟨v, L, h, hl, hs⟩ hf hn => ⟨v, L, h.fr hf (fun k hk => hn k (hs k hk) (h.lt hk)), hl, hs⟩
  cut := fun ⟨v, L, h, hl, hs⟩ => ⟨v, L, h, hl, fun k hk => ⟨hs k hk, h.lt hk⟩⟩
  wide := fun ⟨v, L, h, hl, hs⟩ hw => ⟨v, L, h, hl, fun k hk => hw k (hs k hk)⟩
/-- One by its number. -/
def rgetR {α : Type} (l : List (Option α)) (id : Int) : Option α := if 1 ≤ id then (l[(id - 1).toNat]?).join else none
theorem rgetR_out (L : List (Option REnt)) (id : Int) : rgetR (outR L) id = (rgetR L id).map (·.2.2) := by
  unfold rgetR outR
  split
  · rw [List.getElem?_map]
    cases L[(id - 1).toNat]? with
    | none => rfl
    | some o => rfl
  · rfl
theorem rgetR_some {α : Type} {l : List (Option α)} {id : Int} {a : α} (h : rgetR l id = some a) : ∃ j : Nat, id = (j : Int) + 1 ∧ l[j]? = some (some a) := by
  unfold rgetR at h
  split at h
  · refine ⟨(id - 1).toNat, by omega, ?_⟩
    cases hj : l[(id - 1).toNat]? with
    | none => rw [hj] at h; cases h
    | some o => rw [hj] at h; simp only [Option.join_some] at h; rw [h]
  · cases h
theorem rgetR_at {α : Type} (l : List (Option α)) (j : Nat) : rgetR l ((j : Int) + 1) = (l[j]?).join := by
  unfold rgetR
  rw [if_pos (by omega), show ((j : Int) + 1 - 1).toNat = j by omega]
/-- Those that are there, by their numbers. -/
def oidsF {α : Type} (n : Nat) : List (Option α) → List Int
  | [] => []
  | a :: L => if a.isSome then ((n : Int) + 1) :: oidsF (n + 1) L else oidsF (n + 1) L
def oids {α : Type} (L : List (Option α)) : List Int := oidsF 0 L
theorem oidsF_append {α : Type} : ∀ (A B : List (Option α)) (n : Nat), oidsF n (A ++ B) = oidsF n A ++ oidsF (n + A.length) B
  | [], B, n => by simp [oidsF]
  | a :: A, B, n => by
    simp only [List.cons_append, oidsF, List.length_cons]
    rw [oidsF_append A B (n + 1), show n + (A.length + 1) = n + 1 + A.length by omega]
    split <;> simp
theorem oids_snoc {α : Type} {L : List (Option α)} {j : Nat} {a : Option α} (h : L[j]? = some a) : oids (L.take (j + 1)) = oids (L.take j) ++ if a.isSome then [(j : Int) + 1] else [] := by
  unfold oids
  rw [List.take_add_one, h, Option.toList_some, oidsF_append]
  have : (L.take j).length = j := by rw [List.length_take]; have := (List.getElem?_eq_some_iff.1 h).1; omega
  rw [this, Nat.zero_add]
  simp [oidsF]
theorem oidsF_len {α : Type} : ∀ (L : List (Option α)) (n : Nat), (oidsF n L).length ≤ L.length
  | [], n => by simp [oidsF]
  | a :: L, n => by
    have := oidsF_len L (n + 1)
    simp only [oidsF]
    split <;> simp <;> omega
theorem oidsF_map {α β : Type} (f : α → β) : ∀ (L : List (Option α)) (n : Nat), oidsF n (L.map (·.map f)) = oidsF n L
  | [], n => rfl
  | a :: L, n => by
    simp only [List.map_cons, oidsF, oidsF_map f L (n + 1)]
    cases a <;> rfl
theorem mem_oidsF {α : Type} : ∀ (L : List (Option α)) (n : Nat) (x : Int), x ∈ oidsF n L ↔ ∃ (i : Nat) (a : α), L[i]? = some (some a) ∧ x = (n : Int) + i + 1
  | [], n, x => by simp [oidsF]
  | a :: L, n, x => by
    have ih := mem_oidsF L (n + 1) x
    have key : (∃ (i : Nat) (b : α), (a :: L)[i]? = some (some b) ∧ x = (n : Int) + i + 1) ↔ (a.isSome = true ∧ x = (n : Int) + 1) ∨ ∃ (i : Nat) (b : α), L[i]? = some (some b) ∧ x = ((n + 1 : Nat) : Int) + i + 1 := by
      constructor
      · rintro ⟨i, b, h1, h3⟩
        cases i with
        | zero => simp at h1; subst h1; exact .inl ⟨rfl, by simpa using h3⟩
        | succ i => exact .inr ⟨i, b, by simpa using h1, by omega⟩
      · rintro (⟨h1, h2⟩ | ⟨i, b, h1, h3⟩)
        · obtain ⟨b, rfl⟩ := Option.isSome_iff_exists.1 h1
          exact ⟨0, b, rfl, by simpa using h2⟩
        · exact ⟨i + 1, b, by simpa using h1, by omega⟩
    rw [key, ← ih]
    simp only [oidsF]
    split
    · rename_i h; simp [h]
    · rename_i h; simp [h]
theorem mem_oids {α : Type} {L : List (Option α)} {x : Int} : x ∈ oids L ↔ ∃ a, rgetR L x = some a := by
  unfold oids
  rw [mem_oidsF]
  constructor
  · rintro ⟨i, a, h, rfl⟩
    exact ⟨a, by rw [show ((0 : Nat) : Int) + i + 1 = (i : Int) + 1 by omega, rgetR_at, h]; rfl⟩
  · rintro ⟨a, h⟩
    obtain ⟨j, rfl, hj⟩ := rgetR_some h
    exact ⟨j, a, hj, by omega⟩
theorem oidsF_sorted {α : Type} : ∀ (L : List (Option α)) (n : Nat), (oidsF n L).Pairwise (fun x y => x < y)
  | [], n => by simp [oidsF]
  | a :: L, n => by
    have ih := oidsF_sorted L (n + 1)
    simp only [oidsF]
    split
    · refine List.pairwise_cons.2 ⟨fun y hy => ?_, ih⟩
      obtain ⟨i, b, _, rfl⟩ := (mem_oidsF L (n + 1) y).1 hy
      omega
    · exact ih
def rfileR (l : List (Option Obt)) (id : Int) : Int := ((rgetR l id).map (·.1)).getD 0
def rofR (l : List (Option Obt)) (file : Int) : Int := ((oids l).find? fun id => decide (0 < file) && decide (rfileR l id = file)).getD 0
end
theorem ornew_no (n : Int) (hn : n < 0 ∨ 4096 < n) (w : World) : Calls Try.prog 20 #[.int .i64 n] w fun e w' => e = .returned (.pointer none) ∧ w' = w := by
  rcases hn with h | h
  · go_enter Try.func20, Try.ntmps20
    go_wp2
    go_ret
    exact ⟨rfl, rfl⟩
  · have h2 : ¬ n < 0 := by omega
    have h3 : 0 ≤ n := by omega
    go_enter Try.func20, Try.ntmps20
    go_wp2
    go_ret
    exact ⟨rfl, rfl⟩
theorem obnew_no (n : Int) (hn : n < 0 ∨ 4096 < n) (w : World) : Calls Try.prog 8 #[.int .i64 n] w fun e w' => e = .returned (.pointer none) ∧ w' = w := by
  rcases hn with h | h
  · go_enter Try.func8, Try.ntmps8
    go_wp2
    go_ret
    exact ⟨rfl, rfl⟩
  · have h2 : ¬ n < 0 := by omega
    have h3 : 0 ≤ n := by omega
    go_enter Try.func8, Try.ntmps8
    go_wp2
    go_ret
    exact ⟨rfl, rfl⟩
theorem ornew_any (n : Int) (h0 : 0 ≤ n) (h1 : n ≤ 4096) (w : World) :
    Calls Try.prog 20 #[.int .i64 n] w fun e w' => ∃ b, e = .returned (.pointer (some ⟨b, 0, none⟩)) ∧ ORX b n [] w' (fun k => w.heap.size ≤ k) ∧ Fr (fun _ => False) w w' := by
  go_enter Try.func20, Try.ntmps20
  go_wp2
  go_ret
  refine ⟨_, rfl, ⟨_, [], ⟨ob_new _ _, Sl.nil _ _ _, fun i e h => by simp at h, fun i j e1 e2 h => by simp at h⟩, rfl, fun k hk => ?_⟩, (Fr.refl _ w).alloc _⟩
  rcases hk with rfl | hk | ⟨i, e, he, _⟩
  · exact Nat.le_refl _
  · cases hk
  · simp at he
section
variable {w w1 : World} {b : Nat} {most : Int} {v : Value} {L : List (Option REnt)} {l : List (Option Obt)} {S : Nat → Prop} {e : REnt} {i : Nat}
theorem RT.elen (h : RT w b most v L) : sliceLen v = L.length := by have := h.row.len; simp [ptrR] at this; omega
theorem RT.item (h : RT w b most v L) {j : Nat} {o : Option REnt} (hj : L[j]? = some o) :
    ∃ g off n cap, v = .slice (some ⟨g, off, none⟩) n cap ∧ g < w.heap.size ∧ (∀ i, w.frozen? ⟨g, i, none⟩ = false) ∧ w.cell? ⟨g, off + j, none⟩ = some (ptrV (o.map (·.1))) := by
  have hp : (ptrR L)[j]? = some (ptrV (o.map (·.1))) := by unfold ptrR; rw [List.getElem?_map, hj]; rfl
  obtain ⟨g, off, n, cap, heq, hgl, hcs, hfz, _⟩ := h.row.form (by intro e; rw [e] at hp; cases hp)
  exact ⟨g, off, n, cap, heq, hgl, hfz, hcs j _ hp⟩
set_option maxRecDepth 100000 in
theorem robj_any (h : RT w b most v L) (hl : L.length ≤ 5000) (id : Int) (r : Option Nat) (hr : (rgetR L id).map (·.1) = r) :
    Calls Try.prog 38 #[.pointer (some ⟨b, 0, none⟩), .int .i64 id] w fun e w' => e = .returned (ptrV r) ∧ w = w' := by
  have hN := h.elen
  obtain ⟨A, N, C, rfl⟩ := h.row.shape
  simp only [sliceLen] at hN
  have c1 : w.cell? ⟨b, 1, none⟩ = some (.slice A N C) := cell_of_ob h.blk 1
  have HR := Lib.hid hr
  have HN := Lib.hid hN
  have hN5 : N ≤ 5000 := by omega
  clear hr hN
  by_cases h1 : id < 1
  · have hr : r = none := by rw [← HR.out]; unfold rgetR; rw [if_neg (by omega)]; rfl
    subst hr
    go_enter Try.func38, Try.ntmps38
    go_wp2
    go_ret
    exact ⟨rfl, rfl⟩
  · by_cases h2 : (N : Int) < id
    · have hr : r = none := by
        rw [← HR.out]
        unfold rgetR
        rw [if_pos (by omega), List.getElem?_eq_none (by have := HN.out; omega)]; rfl
      subst hr
      go_enter Try.func38, Try.ntmps38
      go_wp2
      go_ret
      exact ⟨rfl, rfl⟩
    · obtain ⟨j, rfl⟩ : ∃ j : Nat, id = (j : Int) + 1 := ⟨(id - 1).toNat, by omega⟩
      obtain ⟨o, ho⟩ : ∃ o, L[j]? = some o := ⟨_, List.getElem?_eq_getElem (by have := HN.out; omega)⟩
      obtain ⟨g, off, n, cap, heq, hgl, -, cj⟩ := h.item ho
      cases heq
      have hr : r = o.map (·.1) := by rw [← HR.out, rgetR_at, ho]; rfl
      subst hr
      have hjN : j < N := by omega
      clear ho HR
      obtain ⟨u, hu⟩ : ∃ u, ptrV (o.map (·.1)) = u := ⟨_, rfl⟩
      rw [hu] at cj ⊢
      clear hu
      go_enter Try.func38, Try.ntmps38
      go_wp2
      go_ret
      exact ⟨rfl, rfl⟩
theorem rofile_any (h : RT w b most v L) (hl : L.length ≤ 5000) (id : Int) :
    Calls Try.prog 27 #[.pointer (some ⟨b, 0, none⟩), .int .i64 id] w fun e w' => e = .returned (.int .i64 (rfileR (outR L) id)) ∧ w = w' := by
  unfold rfileR
  rw [rgetR_out]
  cases he : rgetR L id with
  | none =>
    have hob := robj_any h hl id none (by rw [he]; rfl)
    clear he
    go_enter Try.func27, Try.ntmps27
    go_wp2_with fail
    refine hob.mono ?_
    rintro e w1 ⟨rfl, rfl⟩
    simp only [ptrV, Option.map_none]
    go_wp2
    go_ret
    exact ⟨rfl, rfl⟩
  | some e =>
    have hob := robj_any h hl id (some e.1) (by rw [he]; rfl)
    obtain ⟨j, -, hj⟩ := rgetR_some he
    obtain ⟨q, u, f, n, pgs⟩ := e
    have hq := (h.one j _ hj).blk
    dsimp only at hq
    have hql := ob_lt hq
    have d0 : w.cell? ⟨q, 0, none⟩ = some (.int .i64 f) := cell_of_ob hq 0
    clear he hj hq
    go_enter Try.func27, Try.ntmps27
    go_wp2_with fail
    refine hob.mono ?_
    rintro e w1 ⟨rfl, rfl⟩
    simp only [ptrV, Option.map_some]
    go_wp2
    go_ret
    exact ⟨rfl, rfl⟩
set_option maxRecDepth 100000 in
set_option maxHeartbeats 2000000 in
theorem roids_any (h : RT w b most v L) (hl : L.length ≤ 5000) :
    Calls Try.prog 29 #[.pointer (some ⟨b, 0, none⟩)] w fun e w' => ∃ A N C, e = .returned (.slice A N C) ∧ Sl w' 3 1 (.slice A N C) (ints (oids L)) ∧ (∀ k, (Value.slice A N C).ownBlock = some k → w.heap.size ≤ k) ∧ Fr (fun _ => False) w w' := by
  have hN := h.elen
  obtain ⟨A, N, C, rfl⟩ := h.row.shape
  simp only [sliceLen] at hN
  have c1 : w.cell? ⟨b, 1, none⟩ = some (.slice A N C) := cell_of_ob h.blk 1
  have hb := ob_lt h.blk
  have HN := Lib.hid hN
  have hN5 : N ≤ 5000 := by omega
  obtain ⟨i0, hi, hz, hsz, hby⟩ := oinfo infoOI
  clear hN hl
  go_enter Try.func29, Try.ntmps29
  go_wp2_with fail
  go_loopw [3, 11] (fun sl si wr => ∃ (t : Nat), t ≤ N ∧ si = .int .i64 t ∧ Sl wr 3 1 sl (ints (oids (L.take t))) ∧ Hid (Fr (fun _ => False) w wr ∧ ∀ k, sl.ownBlock = some k → w.heap.size ≤ k)) (fun _ si _ => N - (intOf si).toNat)
  case atStart => exact ⟨0, by omega, rfl, Sl.nil _ _ _, Lib.hid ⟨Fr.refl _ _, fun k hk => (by cases hk)⟩⟩
  case round =>
    obtain ⟨t, ht, rfl, hsl, HI⟩ := hrel
    by_cases hlt : t < N
    · obtain ⟨o, ho⟩ : ∃ o, L[t]? = some o := ⟨_, List.getElem?_eq_getElem (by have := HN.out; omega)⟩
      obtain ⟨g, off, n', cap', heq, hgl, -, cj⟩ := (h.keep HI.out.1).item ho
      cases heq
      have HX := Lib.hid (oids_snoc ho)
      have hlr : (oids (L.take t)).length ≤ 5000 := by have := oidsF_len (L.take t) 0; rw [List.length_take] at this; unfold oids; omega
      clear ho
      obtain ⟨A2, N2, C2, rfl⟩ := hsl.shape
      have hN2 : N2 ≤ 5000 := by have := hsl.len; simp only [List.length_map, sliceLen] at this; omega
      cases o with
      | some e =>
        obtain ⟨q, e'⟩ := e
        simp only [ptrV, Option.map_some] at cj
        have HX2 : Hid (oids (L.take (t + 1)) = oids (L.take t) ++ [(t : Int) + 1]) := Lib.hid (by rw [HX.out]; simp)
        go_wp2_with (at_builtin; go_must (refine wpList_app (v := .slice A2 N2 C2) rfl _ _ _ rfl Try.underlying31 hi hz hsz hby rfl (by decide) rfl (hsl.alloc _) wr.heap.size 1 1 [.int .i64 ((t : Int) + 1)] rfl (ob_newAt _ _ _ rfl) rfl (by simp [Value.oneCell']) (by decide) (by simp only [maxLen, sliceLen]; omega) (by simp only [sliceLen]; omega) ?_; intro v2 w5 hs5 hf5 ho5 hl5; obtain ⟨A5, N5, C5, rfl⟩ := hs5.shape))
        go_roundw
        case rel =>
          refine ⟨t + 1, by omega, by go_num, ?_, Lib.hid ⟨(HI.out.1.alloc _).step hf5 (fun k hk => .inr (HI.out.2 k hk)), fun k hk => ?_⟩⟩
          · rw [HX2.out]
            have e : ints (oids (L.take t) ++ [(t : Int) + 1]) = ints (oids (L.take t)) ++ [.int .i64 ((t : Int) + 1)] := by simp
            rw [e]; exact hs5
          · rcases ho5 with h1 | ⟨q, h1, h2⟩
            · rw [h1] at hk; exact HI.out.2 k hk
            · rw [h1] at hk; cases hk; have := HI.out.1.size; simp at h2; omega
        case measure => simp [intOf]; omega
      | none =>
        simp only [ptrV, Option.map_none] at cj
        have HX2 : Hid (oids (L.take (t + 1)) = oids (L.take t)) := Lib.hid (by rw [HX.out]; simp)
        go_wp2
        go_roundw
        case rel => exact ⟨t + 1, by omega, by go_num, by rw [HX2.out]; exact hsl, HI⟩
        case measure => simp [intOf]; omega
    · obtain rfl : t = N := by omega
      have hall : L.take t = L := by rw [HN.out, List.take_length]
      rw [hall] at hsl
      clear hall
      obtain ⟨A5, N5, C5, rfl⟩ := hsl.shape
      go_wp2
      go_ret
      exact ⟨_, _, _, rfl, hsl, HI.out.2, HI.out.1⟩
theorem oids_out (L : List (Option REnt)) : oids (outR L) = oids L := oidsF_map _ L 0
set_option maxRecDepth 100000 in
set_option maxHeartbeats 2000000 in
theorem roof_any (h0 : ORX b most l w S) (hl : l.length ≤ 5000) (file : Int) :
    Calls Try.prog 26 #[.pointer (some ⟨b, 0, none⟩), .int .i64 file] w fun e w' => e = .returned (.int .i64 (rofR l file)) ∧ Fr (fun _ => False) w w' := by
  obtain ⟨v, L, h, rfl, hS⟩ := h0
  have hlL : L.length ≤ 5000 := by simpa [outR] using hl
  have hids := roids_any h hlL
  have hmem : ∀ x ∈ oids L, ∃ a, rgetR L x = some a := fun x hx => mem_oids.1 hx
  have hlen : (oids L).length ≤ 5000 := by have := oidsF_len L 0; unfold oids; omega
  unfold rofR
  rw [oids_out]
  obtain ⟨ss, hss⟩ : ∃ ss, oids L = ss := ⟨_, rfl⟩
  rw [hss] at hids hmem hlen ⊢
  obtain ⟨R, hR⟩ : ∃ R, R = ss.find? (fun id => decide (0 < file) && decide (rfileR (outR L) id = file)) := ⟨_, rfl⟩
  rw [← hR]
  have HR := Lib.hid hR
  have HM := Lib.hid hmem
  clear hss hmem hR hl
  go_enter Try.func26, Try.ntmps26
  go_wp2_with fail
  refine hids.mono ?_
  rintro e w2 ⟨A, N, C, rfl, hsl, hown, hf⟩
  clear hids
  have h2 := h.keep hf
  have hN : N = ss.length := by have := hsl.len; simp only [List.length_map, sliceLen] at this; omega
  have HN := Lib.hid hN
  have hN4 : N ≤ 5000 := by omega
  clear hN
  go_wp2_with fail
  go_loop [10] (fun si => ∃ t : Nat, t ≤ N ∧ si = .int .i64 t ∧ Hid (R = (ss.drop t).find? (fun id => decide (0 < file) && decide (rfileR (outR L) id = file)))) (fun si => N - (intOf si).toNat)
  case atStart => exact ⟨0, by omega, rfl, Lib.hid HR.out⟩
  case round =>
    obtain ⟨t, ht, rfl, HF⟩ := hrel
    by_cases hlt : t < N
    · have htl : t < ss.length := by have := HN.out; omega
      obtain ⟨k, hk⟩ : ∃ k, ss[t]? = some k := ⟨_, List.getElem?_eq_getElem htl⟩
      have hki : (ints ss)[t]? = some (.int .i64 k) := by rw [List.getElem?_map, hk]; rfl
      obtain ⟨g, off, n', cap', heq, hgl, hcs, -, -⟩ := hsl.form (by intro e; rw [e] at hki; cases hki)
      cases heq
      have c0 := hcs t _ hki
      obtain ⟨e, he⟩ := HM.out k (List.mem_of_getElem? hk)
      have hob := robj_any h2 hlL k (some e.1) (by rw [he]; rfl)
      obtain ⟨j, -, hj⟩ := rgetR_some he
      obtain ⟨q, u, f, n, pgs⟩ := e
      have hq := (h2.one j _ hj).blk
      dsimp only at hq
      have hql := ob_lt hq
      have d0 : w2.cell? ⟨q, 0, none⟩ = some (.int .i64 f) := cell_of_ob hq 0
      have hfile : rfileR (outR L) k = f := by unfold rfileR; rw [rgetR_out, he]; rfl
      have hdrop : ss.drop t = k :: ss.drop (t + 1) := by
        rw [List.drop_eq_getElem_cons htl]
        have : ss[t] = k := by have := List.getElem?_eq_getElem htl; rw [hk] at this; exact (Option.some.inj this).symm
        rw [this]
      have hfd := HF.out
      rw [hdrop, List.find?_cons, hfile] at hfd
      have HFD := Lib.hid hfd
      clear hk hki hcs he hfd hdrop hfile hj hq HF
      by_cases h0 : 0 < file
      · by_cases hff : f = file
        · go_wp2_with fail
          refine hob.mono ?_
          rintro e w3 ⟨rfl, rfl⟩
          simp only [ptrV, Option.map_some]
          have hRk : R = some k := by have := HFD.out; simpa [h0, hff] using this
          go_wp2
          go_ret
          rw [hRk]
          exact ⟨rfl, hf⟩
        · have hfb : (f == file) = false := by simp [hff]
          go_wp2_with fail
          refine hob.mono ?_
          rintro e w3 ⟨rfl, rfl⟩
          simp only [ptrV, Option.map_some]
          have HRk : Hid (R = (ss.drop (t + 1)).find? (fun id => decide (0 < file) && decide (rfileR (outR L) id = file))) := Lib.hid (by have := HFD.out; simpa [h0, hff] using this)
          clear hff
          go_wp2
          go_round
          case rel => exact ⟨t + 1, by omega, by go_num, HRk⟩
          case measure => simp [intOf]; omega
      · go_wp2
        go_round
        case rel => exact ⟨t + 1, by omega, by go_num, Lib.hid (by have := HFD.out; simpa [h0] using this)⟩
        case measure => simp [intOf]; omega
    · obtain rfl : t = N := by omega
      have hRn : R = none := by rw [HF.out, List.drop_eq_nil_of_le (by rw [HN.out]; omega)]; rfl
      go_wp2
      go_ret
      exact ⟨rfl, hf⟩
end
end Go.Proofs.Ytopfknikmhkaeaa
