/- Plain laws of a pool of anons: numbers, references. And Make where there is no room. Conditions: as told. -/
import Derived.Test.YtalinhpdibdlkaaAnSum
namespace Go.Proofs.Ytalinhpdibdlkaa
open Go.RowKit
set_option linter.unusedSimpArgs false
set_option linter.unusedVariables false
/-- All references, entry by entry. -/
def refsS : List (Int × A3) → Int
  | [] => 0
  | p :: l => p.2.1 + refsS l
theorem refsS_append : ∀ a b : List (Int × A3), refsS (a ++ b) = refsS a + refsS b
  | [], b => by simp [refsS]
  | p :: a, b => by simp only [List.cons_append, refsS]; rw [refsS_append a b]; omega
theorem refsS_set : ∀ (l : List (Int × A3)) (k : Int) (a v : A3), alGet l k = some a → refsS (alSet l k v) = refsS l - a.1 + v.1
  | [], k, a, v, h => by cases h
  | (x, u) :: l, k, a, v, h => by
    by_cases hx : x = k
    · simp only [alGet, hx, if_true, Option.some.injEq] at h
      simp only [alSet, hx, if_true, refsS, h]; omega
    · simp only [alGet, hx, if_false] at h
      simp only [alSet, hx, if_false, refsS]
      rw [refsS_set l k a v h]; omega
theorem refsS_del : ∀ (l : List (Int × A3)) (k : Int) (a : A3), alGet l k = some a → refsS (alDel l k) = refsS l - a.1
  | [], k, a, h => by cases h
  | (x, u) :: l, k, a, h => by
    by_cases hx : x = k
    · simp only [alGet, hx, if_true, Option.some.injEq] at h
      simp only [alDel, hx, if_true, refsS, h]; omega
    · simp only [alGet, hx, if_false] at h
      simp only [alDel, hx, if_false, refsS]
      rw [refsS_del l k a h]; omega
theorem sumR_off (k : Int) (a : A3) (l : List (Int × A3)) : ∀ ks : List Int, k ∉ ks → sumR ((k, a) :: l) ks = sumR l ks
  | [], _ => rfl
  | x :: ks, h => by
    have hx : ¬ (k = x) := fun e => h (by simp [e])
    simp only [sumR, alGet, hx, if_false]
    rw [sumR_off k a l ks (fun e => h (List.mem_cons_of_mem _ e))]
theorem allR_eq : ∀ (l : List (Int × A3)), (l.map (·.1)).Nodup → allR l = refsS l
  | [], _ => rfl
  | (k, a) :: l, h => by
    simp only [List.map_cons, List.nodup_cons] at h
    unfold allR
    simp only [List.map_cons, sumR, alGet, if_true, Option.getD_some, refsS]
    rw [sumR_off k a l _ h.1]
    have := allR_eq l h.2
    unfold allR at this
    rw [this]
theorem mem_keys_of_get {κ α : Type} [DecidableEq κ] {l : List (κ × α)} {k : κ} {a : α} (h : alGet l k = some a) : k ∈ l.map (·.1) :=
  Decidable.byContradiction fun hn => by rw [alGet_none_of l k hn] at h; cases h
theorem get_of_mem_keys {κ α : Type} [DecidableEq κ] : ∀ {l : List (κ × α)} {k : κ}, k ∈ l.map (·.1) → ∃ a, alGet l k = some a
  | (x, u) :: l, k, h => by
    by_cases hx : x = k
    · exact ⟨u, by simp [alGet, hx]⟩
    · simp only [List.map_cons, List.mem_cons] at h
      obtain ⟨a, ha⟩ := get_of_mem_keys (l := l) (k := k) (h.resolve_left (Ne.symm hx))
      exact ⟨a, by simp [alGet, hx, ha]⟩
theorem len_refs : ∀ {l : List (Int × A3)}, (∀ p ∈ l, 1 ≤ p.2.1) → (l.length : Int) ≤ refsS l
  | [], _ => by simp [refsS]
  | p :: l, h => by
    have h1 := h p (by simp)
    have h2 := len_refs (l := l) (fun q hq => h q (by simp [hq]))
    simp only [List.length_cons, refsS]; omega
/-- What a pool keeps: the numbers 1 .. last are the anons' or free; each anon is held, not too often. -/
structure PoolI (last : Int) (free : List Int) (l : List (Int × A3)) : Prop where
  keys : (l.map (·.1)).Nodup
  fnd : free.Nodup
  apart : ∀ x, x ∈ free → x ∉ l.map (·.1)
  all : ∀ x, (x ∈ l.map (·.1) ∨ x ∈ free) ↔ 1 ≤ x ∧ x ≤ last
  refs : ∀ k a, alGet l k = some a → 1 ≤ a.1 ∧ a.1 ≤ 1000000
  last0 : 0 ≤ last
theorem PoolI.start : PoolI 0 [] [] := ⟨by simp, by simp, fun x h => by simp at h, fun x => ⟨fun h => by simp at h, fun h => by omega⟩, fun k a h => (by cases h), by omega⟩
section
variable {last : Int} {free : List Int} {l : List (Int × A3)}
theorem PoolI.keysOK (h : PoolI last free l) (hl : last ≤ 1000000) (hn : l.length ≤ 4096) : Keys l :=
  ⟨h.keys, fun k hk => by
    have := (h.all k).1 (.inl hk)
    have hmin : IntKind.i64.min = -9223372036854775808 := by decide
    have hmax : IntKind.i64.max = 9223372036854775807 := by decide
    show (decide (IntKind.i64.min ≤ k) && decide (k ≤ IntKind.i64.max)) = true
    rw [hmin, hmax]
    simp; omega, hn⟩
theorem PoolI.refsOK (h : PoolI last free l) : RefsOK l := fun k a hg => by have := h.refs k a hg; omega
theorem PoolI.sum (h : PoolI last free l) : allR l = refsS l := allR_eq l h.keys
theorem PoolI.lenLe (h : PoolI last free l) : (l.length : Int) ≤ refsS l := len_refs fun p hp => by
  obtain ⟨a, ha⟩ := get_of_mem_keys (l := l) (k := p.1) (List.mem_map_of_mem hp)
  have hget : ∀ {l : List (Int × A3)}, (l.map (·.1)).Nodup → ∀ p ∈ l, alGet l p.1 = some p.2 := by
    intro l
    induction l with
    | nil => intro _ p hp; simp at hp
    | cons q l ih =>
      intro hn p hp
      simp only [List.map_cons, List.nodup_cons] at hn
      rcases List.mem_cons.1 hp with rfl | hp2
      · simp [alGet]
      · have hne : ¬ (q.1 = p.1) := fun e => hn.1 (e ▸ List.mem_map_of_mem hp2)
        have h3 := ih hn.2 p hp2
        obtain ⟨x, u⟩ := q
        simp only [alGet]
        rw [if_neg hne]
        exact h3
  exact (h.refs p.1 p.2 (hget h.keys p hp)).1
theorem set_new {k : Int} {v : A3} (h : alGet l k = none) : alSet l k v = l ++ [(k, v)] := alSet_new l k v fun hm => by
  obtain ⟨a, ha⟩ := get_of_mem_keys hm
  rw [h] at ha; cases ha
/-- A Make. -/
theorem PoolI.make (h : PoolI last free l) {id last' : Int} {free' : List Int} (hM : Made free last id last' free') (hh : HeapOK free) (fr : Int) :
    alGet l id = none ∧ PoolI last' free' (alSet l id (1, fr, -1)) ∧ last' ≤ last + 1 ∧ free'.length ≤ free.length ∧ (alSet l id (1, fr, -1)).length = l.length + 1 ∧ refsS (alSet l id (1, fr, -1)) = refsS l + 1 ∧ (∀ x, 1 ≤ x → x < id → x ∈ l.map (·.1)) ∧ 1 ≤ id := by
  have key : id ∉ l.map (·.1) ∧ PoolI last' free' (alSet l id (1, fr, -1)) ∧ last' ≤ last + 1 ∧ free'.length ≤ free.length ∧ (∀ x, 1 ≤ x → x < id → x ∈ l.map (·.1)) ∧ 1 ≤ id := by
    rcases hM with ⟨rfl, rfl, rfl, rfl⟩ | ⟨hne, rfl, rfl, hp⟩
    · have hn : last + 1 ∉ l.map (·.1) := fun hm => by have := (h.all _).1 (.inl hm); omega
      have hg := alGet_none_of l _ hn
      refine ⟨hn, ⟨?_, by simp, fun x hx => by simp at hx, fun x => ?_, fun k a hk => ?_, by have := h.last0; omega⟩, by omega, by simp, fun x h1 h2 => ?_, by have := h.last0; omega⟩
      · exact alSet_nodup _ _ _ h.keys
      · have := h.all x
        rw [set_new hg]
        simp only [List.map_append, List.mem_append, List.map_cons, List.map_nil, List.mem_singleton, List.not_mem_nil, or_false] at this ⊢
        rw [this]; have := h.last0; omega
      · rw [alGet_set] at hk
        split at hk
        · cases hk; simp
        · exact h.refs k a hk
      · have := (h.all x).2 ⟨h1, by omega⟩
        simpa using this
    · have h0 : 0 < free.length := List.length_pos_iff.2 hne
      have hmem : at' free 0 ∈ free := by rw [at_get free 0 h0]; exact List.getElem_mem _
      have hn := h.apart _ hmem
      have hg := alGet_none_of l _ hn
      have hnd : (at' free 0 :: free').Nodup := hp.nodup_iff.2 h.fnd
      obtain ⟨hn1, hn2⟩ := List.nodup_cons.1 hnd
      have hlen := hp.length_eq
      simp only [List.length_cons] at hlen
      have hb := (h.all _).1 (.inr hmem)
      refine ⟨hn, ⟨alSet_nodup _ _ _ h.keys, hn2, fun x hx hk => ?_, fun x => ?_, fun k a hk => ?_, h.last0⟩, by omega, by omega, fun x h1 h2 => ?_, by omega⟩
      · rw [set_new hg] at hk
        simp only [List.map_append, List.mem_append, List.map_cons, List.map_nil, List.mem_singleton] at hk
        rcases hk with hk | rfl
        · exact h.apart x (hp.mem_iff.1 (List.mem_cons_of_mem _ hx)) hk
        · exact hn1 hx
      · rw [set_new hg, ← h.all x, ← hp.mem_iff]
        simp only [List.map_append, List.mem_append, List.map_cons, List.map_nil, List.mem_singleton, List.mem_cons, List.not_mem_nil, or_false]
        constructor
        · rintro ((h | h) | h)
          · exact .inl h
          · exact .inr (.inl h)
          · exact .inr (.inr h)
        · rintro (h | h | h)
          · exact .inl (.inl h)
          · exact .inl (.inr h)
          · exact .inr h
      · rw [alGet_set] at hk
        split at hk
        · cases hk; simp
        · exact h.refs k a hk
      · refine ((h.all x).2 ⟨h1, by omega⟩).resolve_right fun hx => ?_
        have := heap_least free hh x hx
        omega
  obtain ⟨k1, k2, k3, k4, k5, k6⟩ := key
  have hg := alGet_none_of l _ k1
  refine ⟨hg, k2, k3, k4, ?_, ?_, k5, k6⟩
  · rw [set_new hg]; simp
  · rw [set_new hg, refsS_append]; simp [refsS]
/-- A change. -/
theorem PoolI.change (h : PoolI last free l) {id : Int} {y : A3} {er : Int} {free' : List Int} {l' : List (Int × A3)} {res : A3 → Int × A3} (hc : ChOut res free l id y er free' l')
    (hres : ∀ a, alGet l id = some a → (res a).1 = 0 → 0 ≤ (res a).2.1 ∧ (res a).2.1 ≤ 1000000) :
    PoolI last free' l' ∧ l'.length ≤ l.length ∧ free'.length ≤ free.length + 1 ∧
      ((∃ a, alGet l id = some a ∧ (res a).1 = 0 ∧ er = 0 ∧ y = (res a).2 ∧ (∀ k, k ≠ id → alGet l' k = alGet l k) ∧ refsS l' = refsS l - a.1 + (res a).2.1 ∧
        (((res a).2.1 = 0 ∧ alGet l' id = none ∧ l'.length + 1 = l.length ∧ free'.Perm (free ++ [id])) ∨ ((res a).2.1 ≠ 0 ∧ alGet l' id = some (res a).2 ∧ l'.length = l.length ∧ free' = free))) ∨
       (l' = l ∧ free' = free ∧ y = (0, 0, 0) ∧ ((alGet l id = none ∧ er = 7) ∨ ∃ a, alGet l id = some a ∧ (res a).1 ≠ 0 ∧ er = (res a).1))) := by
  unfold ChOut at hc
  cases hg : alGet l id with
  | none =>
    rw [hg] at hc
    obtain ⟨rfl, rfl, rfl, rfl⟩ := hc
    exact ⟨h, Nat.le_refl _, by omega, .inr ⟨rfl, rfl, rfl, .inl ⟨rfl, rfl⟩⟩⟩
  | some a =>
    rw [hg] at hc
    dsimp only at hc
    by_cases he : (res a).1 = 0
    · rw [if_neg (by simp [he])] at hc
      obtain ⟨rfl, rfl, hc⟩ := hc
      have hb := hres a hg he
      by_cases hz : (res a).2.1 = 0
      · rw [if_pos hz] at hc
        obtain ⟨hp, rfl⟩ := hc
        have hls : ((alSet l id (res a).2).map (·.1)).Nodup := alSet_nodup _ _ _ h.keys
        have hg2 : alGet (alSet l id (res a).2) id = some (res a).2 := by rw [alGet_set, if_pos rfl]
        have hin := mem_keys_of_get hg
        have hgd : ∀ k, alGet (alDel (alSet l id (res a).2) id) k = if k = id then none else alGet l k := fun k => by
          rw [alGet_del _ _ _ hls, alGet_set]
          by_cases hk : k = id <;> simp [hk]
        have hmem : ∀ x, x ∈ (alDel (alSet l id (res a).2) id).map (·.1) ↔ x ∈ l.map (·.1) ∧ x ≠ id := fun x => by
          constructor
          · intro hx
            obtain ⟨b, hb2⟩ := get_of_mem_keys hx
            rw [hgd] at hb2
            split at hb2
            · cases hb2
            · exact ⟨mem_keys_of_get hb2, by assumption⟩
          · rintro ⟨hx, hne⟩
            obtain ⟨b, hb2⟩ := get_of_mem_keys hx
            exact mem_keys_of_get (a := b) (by rw [hgd, if_neg hne]; exact hb2)
        have hlen : (alDel (alSet l id (res a).2) id).length + 1 = l.length := by
          have h1 := alSet_len_in l id (res a).2 a hg
          have h2 : ∀ (l : List (Int × A3)) (k : Int) (b : A3), alGet l k = some b → (alDel l k).length + 1 = l.length := by
            intro l
            induction l with
            | nil => intro k b hb; cases hb
            | cons p l ih =>
              intro k b hb
              obtain ⟨x, u⟩ := p
              by_cases hx : x = k
              · simp [alDel, hx]
              · simp only [alGet, hx, if_false] at hb
                simp only [alDel, hx, if_false, List.length_cons]
                rw [ih k b hb]
          rw [← h1]; exact h2 _ _ _ hg2
        refine ⟨⟨hls.sublist ((alDel_sub _ _).map _), ?_, fun x hx hk => ?_, fun x => ?_, fun k b hb2 => ?_, h.last0⟩, by omega, by rw [hp.length_eq]; simp, .inl ⟨a, rfl, he, rfl, rfl, fun k hk => by rw [hgd, if_neg hk], ?_, .inl ⟨hz, by rw [hgd, if_pos rfl], hlen, hp⟩⟩⟩
        · exact hp.nodup_iff.2 (List.nodup_append.2 ⟨h.fnd, by simp, fun x hx y hy => by simp at hy; subst hy; exact fun e => h.apart x hx (e ▸ hin)⟩)
        · rw [hmem] at hk
          rw [hp.mem_iff, List.mem_append, List.mem_singleton] at hx
          rcases hx with hx | hx
          · exact h.apart x hx hk.1
          · exact hk.2 hx
        · rw [hmem, hp.mem_iff, List.mem_append, List.mem_singleton, ← h.all x]
          constructor
          · rintro (⟨h1, _⟩ | h1 | rfl)
            · exact .inl h1
            · exact .inr h1
            · exact .inl hin
          · rintro (h1 | h1)
            · by_cases hx : x = id
              · exact .inr (.inr hx)
              · exact .inl ⟨h1, hx⟩
            · exact .inr (.inl h1)
        · rw [hgd] at hb2
          split at hb2
          · cases hb2
          · exact h.refs k b hb2
        · rw [refsS_del _ _ _ hg2, refsS_set l id a _ hg]; omega
      · rw [if_neg hz] at hc
        obtain ⟨rfl, rfl⟩ := hc
        have hin := mem_keys_of_get hg
        have hk2 : (alSet l id (res a).2).map (·.1) = l.map (·.1) := by rw [alSet_keys, if_pos hin]
        refine ⟨⟨by rw [hk2]; exact h.keys, h.fnd, fun x hx => by rw [hk2]; exact h.apart x hx, fun x => by rw [hk2]; exact h.all x, fun k b hb2 => ?_, h.last0⟩, by rw [alSet_len_in l id _ a hg]; exact Nat.le_refl _, by omega, .inl ⟨a, rfl, he, rfl, rfl, fun k hk => by rw [alGet_set, if_neg hk], ?_, .inr ⟨hz, by rw [alGet_set, if_pos rfl], alSet_len_in l id _ a hg, rfl⟩⟩⟩
        · rw [alGet_set] at hb2
          split at hb2
          · cases hb2; omega
          · exact h.refs k b hb2
        · rw [refsS_set l id a _ hg]
    · rw [if_pos he] at hc
      obtain ⟨rfl, rfl, rfl, rfl⟩ := hc
      exact ⟨h, Nat.le_refl _, by omega, .inr ⟨rfl, rfl, rfl, .inr ⟨a, rfl, he, rfl⟩⟩⟩
theorem refRes_ok {a : A3} {x : Int} (h : 0 ≤ a.1 ∧ a.1 ≤ 1000000) (he : (refRes x a).1 = 0) : 0 ≤ (refRes x a).2.1 ∧ (refRes x a).2.1 ≤ 1000000 ∧ (refRes x a).2 = (a.1 + x, a.2) ∧ -a.1 ≤ x ∧ x ≤ 1000000 - a.1 := by
  unfold refRes at he ⊢
  split at he
  · cases he
  · rename_i hn
    rw [if_neg hn]
    exact ⟨by show 0 ≤ a.1 + x; omega, by show a.1 + x ≤ 1000000; omega, rfl, by omega, by omega⟩
end
section
variable {Pr : Nat → Prop} {W1 w w1 : World} {b m : Nat} {most last : Int} {free : List Int} {l : List (Int × A3)}
theorem PoolX.heap (h : PoolX Pr W1 w b m most last free l) : HeapOK free := let ⟨_, hT, _⟩ := h; hT.heap
set_option maxRecDepth 100000 in
theorem make_full (h : PoolX Pr W1 w b m most last free l) (hl : most ≤ l.length) (frame : Int) :
    Calls Try.prog 11 #[.pointer (some ⟨b, 0, none⟩), .int .i64 frame] w fun e w' => e = .returned (.tuple #[.int .i64 0, .int .i64 5]) ∧ Fr (fun _ => False) w w' := by
  obtain ⟨fv, hT, hown, hfr, hlt⟩ := h
  have hb := hT.lt
  have c0 : w.cell? ⟨b, 0, none⟩ = some (.int .i64 most) := cell_of_ob hT.blk 0
  have c2 : w.cell? ⟨b, 2, none⟩ = some (.map (some m)) := cell_of_ob hT.blk 2
  go_enter Try.func11, Try.ntmps11
  go_wp2_with fail
  refine (made_any hT).mono ?_
  rintro e w1 ⟨rfl, rfl⟩
  go_wp2_with fail
  refine wp_region_canon [0, 1, 2, 5, 6, 7, 3, 4, 8, 9, 10] (by kernel_rfl) (by kernel_rfl) (fun K hK => ?_)
  simp only [List.map_cons, List.map_nil, List.getD_cons_succ, List.getD_cons_zero]
  go_wp2_with (at_len; go_must (refine wpList_maplen rfl _ _ _ rfl rfl Try.underlying60 (hT.all.of rfl) ?_))
  refine hK _ _ (by kernel_rfl) ?_
  clear hK K
  go_wp2
  refine bodyPost_ret (v := .tuple #[.int .i64 0, .int .i64 5]) (by simp [results, Try.results11, go_sem]) rfl ⟨rfl, (Fr.refl _ _).drew⟩
end
end Go.Proofs.Ytalinhpdibdlkaa
