/- object.Pool: New, made, of, tidy. No conditions. -/
import Derived.Test.YtopfknikmhkaeaaAl
import Derived.Test.YtopfknikmhkaeaaCanonH
import Derived.Test.YtopfknikmhkaeaaStar
import Derived.WalkKit
import Derived.OwnWalkIn
import Derived.TacticsInMore
namespace Go.Proofs.Ytopfknikmhkaeaa
open Go.RowKit
set_option linter.unusedSimpArgs false
set_option linter.unusedVariables false
attribute [local go_sem] Oper.semAt_some
/-- A page: frame, slot, dirty. -/
abbrev Pg := Int × Int × Bool
def pgV (x : Pg) : Value := .agg #[.int .i64 x.1, .int .i64 x.2.1, .bool x.2.2]
def ik (n : Int) : Value := .int .i64 n
theorem key_ik : KeyOK Try.prog 3 ik := KeyOK.int Try.underlying3
theorem zeroPg (w : World) : (zeroValue 34).run Try.prog w = .ok (pgV (0, 0, false)) w := by kernel_rfl
def ptrV (o : Option Nat) : Value := .pointer (o.map fun n => ⟨n, 0, none⟩)
theorem zeroPtr (w : World) : (zeroValue 71).run Try.prog w = .ok (ptrV none) w := by kernel_rfl
/-- An object: file, references, pages. In memory: its block, its pages' block. -/
abbrev Obt := Int × Int × List (Int × Pg)
abbrev Ent := Nat × Nat × Obt
structure OneT (w : World) (e : Ent) : Prop where
  blk : ob w e.1 = some (.cells #[.int .i64 e.2.2.1, .int .i64 e.2.2.2.1, .map (some e.2.1)] 74 (0, 0))
  pages : MapIs ik pgV w e.2.1 e.2.2.2.2
def ptrL (L : List (Int × Ent)) : List (Int × Option Nat) := L.map fun p => (p.1, some p.2.1)
def outL (L : List (Int × Ent)) : List (Int × Obt) := L.map fun p => (p.1, p.2.2.2)
structure OT (w : World) (b m : Nat) (most : Int) (L : List (Int × Ent)) : Prop where
  blk : ob w b = some (.cells #[.int .i64 most, .bool true, .map (some m)] 68 (0, 0))
  all : MapIs ik ptrV w m (ptrL L)
  one : ∀ k e, alGet L k = some e → OneT w e
  inj : ∀ k1 k2 e1 e2, alGet L k1 = some e1 → alGet L k2 = some e2 → e1.1 = e2.1 ∨ e1.2.1 = e2.2.1 → k1 = k2
  mne : ∀ k e, alGet L k = some e → e.2.1 ≠ m
  nodup : (L.map (·.1)).Nodup
theorem get_ptrL (L : List (Int × Ent)) (k : Int) : (alGet (ptrL L) k).getD none = (alGet L k).map (·.1) := by
  unfold ptrL
  rw [alGet_snd (fun e : Ent => some e.1)]
  cases alGet L k <;> rfl
theorem get_outL (L : List (Int × Ent)) (k : Int) : alGet (outL L) k = (alGet L k).map (·.2.2) := alGet_snd (fun e : Ent => e.2.2) L k
theorem len_outL (L : List (Int × Ent)) : (outL L).length = L.length := by simp [outL]
theorem keys_outL (L : List (Int × Ent)) : (outL L).map (·.1) = L.map (·.1) := by simp [outL]
theorem keys_ptrL (L : List (Int × Ent)) : (ptrL L).map (·.1) = L.map (·.1) := by simp [ptrL]
theorem cells_ne_map {w : World} {k : Nat} {c : Array Value} {t : TypeId} {f : Nat × Nat} {l : List (Int × Pg)} (h : ob w k = some (.cells c t f)) {α : Type} {ev : α → Value} {q : Nat} {l : List (Int × α)} (hm : MapIs ik ev w q l) : k ≠ q := fun e => by
  obtain ⟨es, c, ho, _⟩ := hm
  rw [e, ho] at h
  cases h
section
variable {w w1 : World} {b m : Nat} {most : Int} {L : List (Int × Ent)} {S : Nat → Prop} {k : Int} {e : Ent}
def objS (b m : Nat) (L : List (Int × Ent)) (q : Nat) : Prop := q = b ∨ q = m ∨ ∃ k e, alGet L k = some e ∧ (q = e.1 ∨ q = e.2.1)
theorem OneT.fr (h : OneT w e) (hf : Fr S w w1) (h1 : ¬ S e.1) (h2 : ¬ S e.2.1) : OneT w1 e :=
  ⟨hf.keep h1 h.blk, h.pages.of (hf.block _ h.pages.lt h2)⟩
theorem OT.lt (h : OT w b m most L) : b < w.heap.size := ob_lt h.blk
theorem OT.slt (h : OT w b m most L) {q : Nat} (hq : objS b m L q) : q < w.heap.size := by
  rcases hq with rfl | rfl | ⟨k, e, he, rfl | rfl⟩
  · exact h.lt
  · exact h.all.lt
  · exact ob_lt (h.one k e he).blk
  · exact (h.one k e he).pages.lt
theorem OT.fr (h : OT w b m most L) (hf : Fr S w w1) (hn : ∀ q, objS b m L q → ¬ S q) : OT w1 b m most L :=
  ⟨hf.keep (hn b (.inl rfl)) h.blk, h.all.of (hf.block m h.all.lt (hn m (.inr (.inl rfl)))), fun k e he => (h.one k e he).fr hf (hn _ (.inr (.inr ⟨k, e, he, .inl rfl⟩))) (hn _ (.inr (.inr ⟨k, e, he, .inr rfl⟩))), h.inj, h.mne, h.nodup⟩
theorem OT.keep (h : OT w b m most L) (hf : Fr (fun _ => False) w w1) : OT w1 b m most L := h.fr hf (fun _ _ h => h)
theorem OT.bm (h : OT w b m most L) : b ≠ m := fun e => by
  obtain ⟨es, c, ho, _⟩ := h.all
  have := h.blk
  rw [e, ho] at this
  cases this
theorem OT.oneb (h : OT w b m most L) (he : alGet L k = some e) : e.1 ≠ b := fun hb => by
  have := (h.one k e he).blk
  rw [hb, h.blk] at this
  simp at this
theorem OT.onem (h : OT w b m most L) (he : alGet L k = some e) : e.1 ≠ m := fun hb => by
  obtain ⟨es, c, ho, _⟩ := h.all
  have := (h.one k e he).blk
  rw [hb, ho] at this
  cases this
theorem OT.pgb (h : OT w b m most L) (he : alGet L k = some e) : e.2.1 ≠ b := fun hb => by
  obtain ⟨es, c, ho, _⟩ := (h.one k e he).pages
  rw [hb, h.blk] at ho
  cases ho
theorem OT.onepg (h : OT w b m most L) {k2 : Int} {e2 : Ent} (he : alGet L k = some e) (he2 : alGet L k2 = some e2) : e.1 ≠ e2.2.1 := fun hb => by
  obtain ⟨es, c, ho, _⟩ := (h.one k2 e2 he2).pages
  have := (h.one k e he).blk
  rw [hb, ho] at this
  cases this
theorem made_any (h : OT w b m most L) : Calls Try.prog 31 #[.pointer (some ⟨b, 0, none⟩)] w fun e w' => e = .returned (.bool true) ∧ w = w' := by
  have hb := h.lt
  have c1 : w.cell? ⟨b, 1, none⟩ = some (.bool true) := cell_of_ob h.blk 1
  go_enter Try.func31, Try.ntmps31
  go_wp2
  go_ret
  exact ⟨rfl, rfl⟩
theorem of_any (h : OT w b m most L) (id : Int) (r : Option Nat) (hr : (alGet L id).map (·.1) = r) : Calls Try.prog 32 #[.pointer (some ⟨b, 0, none⟩), .int .i64 id] w fun e w' => e = .returned (ptrV r) ∧ w = w' := by
  have hb := h.lt
  have c2 : w.cell? ⟨b, 2, none⟩ = some (.map (some m)) := cell_of_ob h.blk 2
  have hr2 := (get_ptrL L id).trans hr
  have HR := Lib.hid hr2
  clear hr hr2
  go_enter Try.func32, Try.ntmps32
  go_wp2_with fail
  refine (made_any h).mono ?_
  rintro e w1 ⟨rfl, rfl⟩
  go_wp2_with (at_lookup; go_must (refine wpList_look1 rfl _ _ _ rfl rfl id rfl key_ik Try.underlying66 none zeroPtr (h.all.of rfl) r HR.out ?_))
  exact bodyPost_ret (v := ptrV r) (by simp [results, Try.results32, go_sem]) rfl ⟨rfl, rfl⟩
theorem new_any (n : Int) (h0 : 0 ≤ n) (h1 : n ≤ 4096) (w : World) :
    Calls Try.prog 8 #[.int .i64 n] w fun e w' => ∃ b m, e = .returned (.pointer (some ⟨b, 0, none⟩)) ∧ OT w' b m n [] ∧ Fr (fun _ => False) w w' ∧ w.heap.size ≤ b ∧ w.heap.size ≤ m := by
  have hmm := @run_makeMap Try.prog
  go_enter Try.func8, Try.ntmps8
  go_wp2
  go_ret
  exact ⟨_, _, rfl, ⟨ob_newAt _ _ _ (by simp), (MapIs.new w).of (ob_alloc _ _ _ (by simp)), fun k e h => (by cases h), fun k1 _ e1 _ h => (by cases h), fun k e h => (by cases h), (by simp)⟩, ((Fr.refl _ w).alloc _).alloc _, by omega, Nat.le_refl _⟩
/-- An object that has nothing is gone. -/
def tidyL (L : List (Int × Ent)) (k : Int) : List (Int × Ent) :=
  match alGet L k with
  | none => L
  | some e => if e.2.2.2.1 = 0 ∧ e.2.2.2.2 = [] then alDel L k else L
theorem OT.del (h : OT w b m most L) (k : Int) (hb : ob w1 b = ob w b) (ha : MapIs ik ptrV w1 m (alDel (ptrL L) k)) (hf : Fr (fun q => q = m) w w1) : OT w1 b m most (alDel L k) := by
  have hg : ∀ x e, alGet (alDel L k) x = some e → alGet L x = some e := fun x e he => by
    rw [alGet_del L k x h.nodup] at he
    split at he
    · cases he
    · exact he
  refine ⟨hb.trans h.blk, ?_, fun x e he => (h.one x e (hg x e he)).fr hf (h.onem (hg x e he)) (h.mne x e (hg x e he)), fun k1 k2 e1 e2 h1 h2 => h.inj k1 k2 e1 e2 (hg _ _ h1) (hg _ _ h2), fun x e he => h.mne x e (hg x e he), alDel_nodup _ _ h.nodup⟩
  unfold ptrL at ha ⊢
  rw [alDel_snd (fun e : Ent => some e.1)]
  exact ha
set_option maxRecDepth 100000 in
set_option maxHeartbeats 2000000 in
theorem tidy_any (h : OT w b m most L) (id : Int) : Calls Try.prog 33 #[.pointer (some ⟨b, 0, none⟩), .int .i64 id] w fun e w' => e = .returned (.tuple #[]) ∧ OT w' b m most (tidyL L id) ∧ Fr (fun q => q = m) w w' := by
  have hb := h.lt
  have c2 : w.cell? ⟨b, 2, none⟩ = some (.map (some m)) := cell_of_ob h.blk 2
  rcases he : alGet L id with _ | ⟨q, pm, f, n, pgs⟩
  · have ht : tidyL L id = L := by unfold tidyL; rw [he]
    rw [ht]
    clear ht
    have hof := of_any h id none (by rw [he]; rfl)
    clear he
    go_enter Try.func33, Try.ntmps33
    go_wp2_with fail
    refine hof.mono ?_
    rintro e w1 ⟨rfl, rfl⟩
    simp only [ptrV, Option.map_none]
    go_wp2
    go_end0
    exact ⟨rfl, h, Fr.refl _ _⟩
  · have h1 := h.one id _ he
    obtain ⟨hq, hpm⟩ := h1
    dsimp only at hq hpm
    have hql := ob_lt hq
    have d1 : w.cell? ⟨q, 1, none⟩ = some (.int .i64 n) := cell_of_ob hq 1
    have d2 : w.cell? ⟨q, 2, none⟩ = some (.map (some pm)) := cell_of_ob hq 2
    have hof := of_any h id (some q) (by rw [he]; rfl)
    obtain ⟨T, hT⟩ : ∃ T, T = tidyL L id := ⟨_, rfl⟩
    rw [← hT]
    have hT2 := hT
    unfold tidyL at hT2
    rw [he] at hT2
    dsimp only at hT2
    clear hT he
    by_cases hn : n = 0
    · subst hn
      by_cases hp : pgs = []
      · subst hp
        simp only [and_self, if_true] at hT2
        have HT := Lib.hid hT2
        clear hT2
        go_enter Try.func33, Try.ntmps33
        go_wp2_with fail
        refine hof.mono ?_
        rintro e w1 ⟨rfl, rfl⟩
        simp only [ptrV, Option.map_some]
        go_wp2_with (first
          | (at_len; go_must (refine wpList_maplen_w rfl _ _ _ rfl rfl Try.underlying72 (hpm.of rfl) ?_; simp only [List.length_nil]))
          | (at_delete; go_must (refine wpList_del rfl _ _ _ _ rfl rfl id rfl key_ik Try.underlying66 (h.all.of rfl) ?_; intro o2 hm2)))
        go_end0
        refine ⟨rfl, ?_, (Fr.refl _ w).putOb _ _ (.inl rfl)⟩
        rw [HT.out]
        exact h.del id (ob_putOb_ne _ _ _ _ h.bm) hm2 ((Fr.refl _ w).putOb _ _ (.inl rfl))
      · rw [if_neg (fun h => hp h.2)] at hT2
        subst hT2
        have hl : 0 < pgs.length := List.length_pos_iff.2 hp
        have hl2 : ¬ (pgs.length : Int) = 0 := by omega
        go_enter Try.func33, Try.ntmps33
        go_wp2_with fail
        refine hof.mono ?_
        rintro e w1 ⟨rfl, rfl⟩
        simp only [ptrV, Option.map_some]
        go_wp2_with (at_len; go_must (refine wpList_maplen_w rfl _ _ _ rfl rfl Try.underlying72 (hpm.of rfl) ?_))
        go_end0
        exact ⟨rfl, h, Fr.refl _ _⟩
    · rw [if_neg (fun h => hn h.1)] at hT2
      subst hT2
      go_enter Try.func33, Try.ntmps33
      go_wp2_with fail
      refine hof.mono ?_
      rintro e w1 ⟨rfl, rfl⟩
      simp only [ptrV, Option.map_some]
      go_wp2
      go_end0
      exact ⟨rfl, h, Fr.refl _ _⟩
end
end Go.Proofs.Ytopfknikmhkaeaa
