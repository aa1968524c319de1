/- anon.Pool: New, Make. Conditions: bounds on lengths. -/
import Derived.Test.YtalinhpdibdlkaaAnB
namespace Go.Proofs.Ytalinhpdibdlkaa
open Go.RowKit
set_option linter.unusedSimpArgs false
set_option linter.unusedVariables false
/-- An anon: references, frame, slot. -/
abbrev A3 := Int × Int × Int
def a3 (a : A3) : Value := .agg #[.int .i64 a.1, .int .i64 a.2.1, .int .i64 a.2.2]
def ik (n : Int) : Value := .int .i64 n
theorem key_ik : KeyOK Try.prog 3 ik := KeyOK.int Try.underlying3
theorem zeroA3 (w : World) : (zeroValue 32).run Try.prog w = .ok (a3 (0, 0, 0)) w := by kernel_rfl
structure PoolT (w : World) (b m : Nat) (most last : Int) (fv : Value) (free : List Int) (l : List (Int × A3)) : Prop where
  blk : ob w b = some (.cells #[.int .i64 most, .bool true, .map (some m), fv, .int .i64 last] 63 (0, 0))
  all : MapIs ik a3 w m l
  frees : Sl w 3 1 fv (ints free)
  heap : HeapOK free
section
variable {w w1 : World} {b m : Nat} {most last : Int} {fv : Value} {free : List Int} {l : List (Int × A3)}
theorem PoolT.lt (h : PoolT w b m most last fv free l) : b < w.heap.size := ob_lt h.blk
theorem PoolT.mlt (h : PoolT w b m most last fv free l) : m < w.heap.size := h.all.lt
theorem PoolT.bm (h : PoolT w b m most last fv free l) : b ≠ m := fun e => by
  obtain ⟨es, c, ho, _⟩ := h.all
  have := h.blk
  rw [e, ho] at this
  cases this
theorem PoolT.fb (h : PoolT w b m most last fv free l) : fv.ownBlock ≠ some b := fun e => by
  rcases h.frees with ⟨rfl, _⟩ | ⟨g, off, n, cap, row, rfl, ho, _⟩
  · cases e
  · cases e
    have := ho.symm.trans h.blk
    simp at this
theorem PoolT.fm (h : PoolT w b m most last fv free l) : fv.ownBlock ≠ some m := fun e => by
  rcases h.frees with ⟨rfl, _⟩ | ⟨g, off, n, cap, row, rfl, ho, _⟩
  · cases e
  · cases e
    obtain ⟨es, c, ho2, _⟩ := h.all
    have := ho.symm.trans ho2
    cases this
def poolS (b m : Nat) (fv : Value) (k : Nat) : Prop := k = b ∨ k = m ∨ fv.ownBlock = some k
theorem PoolT.slt (h : PoolT w b m most last fv free l) {k : Nat} (hk : poolS b m fv k) : k < w.heap.size := by
  rcases hk with rfl | rfl | hk
  · exact h.lt
  · exact h.mlt
  · exact h.frees.lt hk
theorem PoolT.fr {S : Nat → Prop} (h : PoolT w b m most last fv free l) (hf : Fr S w w1) (hn : ∀ k, poolS b m fv k → ¬ S k) : PoolT w1 b m most last fv free l :=
  ⟨hf.keep (hn b (.inl rfl)) h.blk, h.all.of (hf.block m h.mlt (hn m (.inr (.inl rfl)))), h.frees.fr hf (fun k hk => hn k (.inr (.inr hk))), h.heap⟩
end
/-- A pool; the blocks that are kept safe (Pr) are as they were in W1. -/
def PoolX (Pr : Nat → Prop) (W1 w : World) (b m : Nat) (most last : Int) (free : List Int) (l : List (Int × A3)) : Prop :=
  ∃ fv, PoolT w b m most last fv free l ∧ (∀ k, poolS b m fv k → ¬ Pr k) ∧ Fr (fun k => ¬ Pr k) W1 w ∧ ∀ k, Pr k → k < W1.heap.size
section
variable {Pr : Nat → Prop} {W1 w w1 : World} {b m : Nat} {most last : Int} {free : List Int} {l : List (Int × A3)}
theorem PoolX.fr (h : PoolX Pr W1 w b m most last free l) : Fr (fun k => ¬ Pr k) W1 w := let ⟨_, _, _, h, _⟩ := h; h
theorem PoolX.keep (h : PoolX Pr W1 w b m most last free l) (hf : Fr (fun _ => False) w w1) : PoolX Pr W1 w1 b m most last free l :=
  let ⟨fv, h1, h2, h3, h4⟩ := h
  ⟨fv, h1.fr hf (fun _ _ h => h), h2, h3.step hf (fun _ h => h.elim), h4⟩
theorem PoolX.turn {fv fv' : Value} {last' : Int} {free' : List Int} {l' : List (Int × A3)} (h1 : PoolT w b m most last fv free l) (h2 : ∀ k, poolS b m fv k → ¬ Pr k) (h3 : Fr (fun k => ¬ Pr k) W1 w) (h4 : ∀ k, Pr k → k < W1.heap.size)
    (g1 : PoolT w1 b m most last' fv' free' l') (g2 : Fr (poolS b m fv) w w1) (g3 : ∀ q, fv'.ownBlock = some q → fv.ownBlock = some q ∨ w.heap.size ≤ q) : PoolX Pr W1 w1 b m most last' free' l' := by
  refine ⟨fv', g1, fun k hk hp => ?_, h3.step g2 (fun k hk => .inl (h2 k hk)), h4⟩
  rcases hk with hk | hk | hk
  · exact h2 k (.inl hk) hp
  · exact h2 k (.inr (.inl hk)) hp
  · rcases g3 k hk with h | h
    · exact h2 k (.inr (.inr h)) hp
    · have := h4 k hp; have := h3.size; omega
/-- More blocks are kept safe for a while. -/
theorem PoolX.enter (h : PoolX Pr W1 w b m most last free l) (hf : Fr (fun _ => False) w w1) (L : Nat → Prop) (hL : ∀ k, L k → w.heap.size ≤ k ∧ k < w1.heap.size) : PoolX (fun k => Pr k ∨ L k) w1 w1 b m most last free l := by
  obtain ⟨fv, h1, h2, h3, h4⟩ := h
  refine ⟨fv, h1.fr hf (fun _ _ h => h), fun k hk hp => ?_, Fr.refl _ _, fun k hp => ?_⟩
  · rcases hp with hp | hp
    · exact h2 k hk hp
    · have := h1.slt hk; have := hL k hp; omega
  · rcases hp with hp | hp
    · have := h4 k hp; have := h3.size; have := hf.size; omega
    · exact (hL k hp).2
theorem PoolX.leave {w2 : World} {L : Nat → Prop} {most' last' : Int} {free' : List Int} {l' : List (Int × A3)} (h : PoolX Pr W1 w b m most last free l) (hf : Fr (fun _ => False) w w1) (h2 : PoolX (fun k => Pr k ∨ L k) w1 w2 b m most' last' free' l') : PoolX Pr W1 w2 b m most' last' free' l' := by
  obtain ⟨fv, h1, h2', h3, h4⟩ := h
  obtain ⟨fv', g1, g2, g3, g4⟩ := h2
  exact ⟨fv', g1, fun k hk hp => g2 k hk (.inl hp), (h3.step hf (fun _ h => h.elim)).step g3 (fun k hk => .inl (fun hp => hk (.inl hp))), h4⟩
theorem PoolX.safe {w2 : World} {L : Nat → Prop} (h2 : PoolX (fun k => Pr k ∨ L k) w1 w2 b m most last free l) {k : Nat} {o : Obj} (hk : L k) (ho : ob w1 k = some o) : ob w2 k = some o := h2.fr.keep (fun h => h (.inr hk)) ho
theorem made_any {fv : Value} (h : PoolT w b m most last fv free l) : Calls Try.prog 26 #[.pointer (some ⟨b, 0, none⟩)] w fun e w' => e = .returned (.bool true) ∧ w = w' := by
  have hb := h.lt
  have c1 : w.cell? ⟨b, 1, none⟩ = some (.bool true) := cell_of_ob h.blk 1
  go_enter Try.func26, Try.ntmps26
  go_wp2
  go_ret
  exact ⟨rfl, rfl⟩
theorem new_any (n : Int) (h0 : 0 ≤ n) (h1 : n ≤ 4096) (w : World) :
    Calls Try.prog 9 #[.int .i64 n] w fun e w' => ∃ b m, e = .returned (.pointer (some ⟨b, 0, none⟩)) ∧ PoolX (fun k => k < w.heap.size) w w' b m n 0 [] [] ∧ Fr (fun _ => False) w w' ∧ w.heap.size ≤ b ∧ w.heap.size ≤ m := by
  have hmm := @run_makeMap Try.prog
  go_enter Try.func9, Try.ntmps9
  go_wp2
  go_ret
  refine ⟨_, _, rfl, ⟨_, ⟨ob_newAt _ _ _ (by simp), (MapIs.new w).of (ob_alloc _ _ _ (by simp)), Sl.nil _ _ _, fun j _ hj => by simp at hj⟩, fun k hk hp => (by rcases hk with rfl | rfl | hk; exact absurd hp (by simp); exact absurd hp (by simp); cases hk), (((Fr.refl (fun k => ¬ k < w.heap.size) w).alloc _).alloc _), fun k h => h⟩, ((Fr.refl _ w).alloc _).alloc _, by omega, Nat.le_refl _⟩
/-- What a Make gives. -/
def Made (free : List Int) (last id last' : Int) (free' : List Int) : Prop :=
  (free = [] ∧ id = last + 1 ∧ last' = last + 1 ∧ free' = []) ∨ (free ≠ [] ∧ id = at' free 0 ∧ last' = last ∧ (id :: free').Perm free)
set_option maxRecDepth 100000 in
set_option maxHeartbeats 2000000 in
theorem make_any (h : PoolX Pr W1 w b m most last free l) (hl : (l.length : Int) < most) (hf : free.length ≤ 100000) (hla : -1000000 ≤ last ∧ last ≤ 1000000) (frame : Int) :
    Calls Try.prog 11 #[.pointer (some ⟨b, 0, none⟩), .int .i64 frame] w fun e w' =>
      ∃ id, e = .returned (.tuple #[.int .i64 id, .int .i64 0]) ∧ ∃ last' free', Made free last id last' free' ∧ PoolX Pr W1 w' b m most last' free' (alSet l id (1, frame, -1)) := by
  obtain ⟨fv, hT, hown, hfr, hlt⟩ := h
  have hb := hT.lt
  have c0 : w.cell? ⟨b, 0, none⟩ = some (.int .i64 most) := cell_of_ob hT.blk 0
  have c2 : w.cell? ⟨b, 2, none⟩ = some (.map (some m)) := cell_of_ob hT.blk 2
  have c3 : w.cell? ⟨b, 3, none⟩ = some fv := cell_of_ob hT.blk 3
  have c4 : w.cell? ⟨b, 4, none⟩ = some (.int .i64 last) := cell_of_ob hT.blk 4
  have f4 : w.frozen? ⟨b, 4, none⟩ = false := frozen_of_ob hT.blk 4
  obtain ⟨A, N, C, rfl⟩ := hT.frees.shape
  have hN : N = free.length := by have := hT.frees.len; simp only [List.length_map, sliceLen] at this; omega
  have HN := Lib.hid hN
  clear hN
  have hbm := hT.bm
  go_enter Try.func11, Try.ntmps11
  go_wp2_with fail
  refine (made_any hT).mono ?_
  rintro e w1 ⟨rfl, rfl⟩
  go_wp2_with fail
  refine wp_region_canon [0, 1, 2, 5, 6, 7, 3, 4, 8, 9, 10] (by kernel_rfl) (by kernel_rfl) (fun K hK => ?_)
  simp only [List.map_cons, List.map_nil, List.getD_cons_succ, List.getD_cons_zero]
  go_wp2_with (at_len; go_must (refine wpList_maplen rfl _ _ _ rfl rfl Try.underlying60 (hT.all.of rfl) ?_))
  refine hK _ _ (by kernel_rfl) ?_
  clear hK K
  have hl2 : ¬ most ≤ (l.length : Int) := by omega
  by_cases hE : N = 0
  · subst hE
    have hfe : free = [] := by have := HN.out; exact List.eq_nil_of_length_eq_zero this.symm
    obtain ⟨last1, hl1⟩ : ∃ last1, last1 = last + 1 := ⟨_, rfl⟩
    have hl1' : last + 1 = last1 := hl1.symm
    have HL1 := Lib.hid hl1
    have HFE := Lib.hid hfe
    clear hl1 hfe
    go_wp2_with (at_mapUpdate; go_must (refine wpList_upd rfl _ _ _ _ rfl rfl last1 rfl ((1, frame, -1) : A3) rfl key_ik Try.underlying60 (hT.all.of (ob_setCell _ _ _ _ hbm.symm)) ?_; intro o2 hm2))
    refine bodyPost_ret (v := .tuple #[.int .i64 last1, .int .i64 0]) (by simp [results, Try.results11, go_sem]) rfl ⟨last1, rfl, last1, [], .inl ⟨HFE.out, HL1.out, HL1.out, rfl⟩, .turn hT hown hfr hlt (fv' := .slice A 0 C) ⟨(ob_putOb_ne _ _ _ _ hbm).trans (ob_setCell_same hT.blk _), hm2, ?_, fun j _ hj => by simp at hj⟩ ?_ (fun q hq => .inl hq)⟩
    · have h1 := hT.frees.of (w1 := putOb (w.setCell ⟨b, 4, none⟩ (.int .i64 last1)).drew m o2) fun q hq => (ob_putOb_ne _ _ _ _ (fun e => hT.fm (by rw [hq, e]))).trans (ob_setCell _ _ _ _ (fun e => hT.fb (by rw [hq, e])))
      rw [HFE.out] at h1
      exact h1
    · exact (((Fr.refl (poolS b m (.slice A 0 C)) w).setCell ⟨b, 4, none⟩ _ (.inl (.inl rfl))).drew).putOb _ _ (.inl (.inr (.inl rfl)))
  · have hE2 : (0 : Int) < N := by omega
    have hE3 : 0 < free.length := by have := HN.out; omega
    go_wp2_with fail
    refine (pop_any (w := w.drew) (hT.blk) hT.frees hT.heap hf hE3 hT.fb).mono ?_
    rintro e w1 ⟨rfl, fv', free', hb1, hs1, hh1, hp1, hf1, ho1⟩
    have hfW : Fr (fun k => k = b ∨ (Value.slice A N C).ownBlock = some k) w w1 := (Fr.refl _ w).drew.step hf1 (fun k hk => .inl hk)
    have hm1 : MapIs ik a3 w1 m l := hT.all.of (hfW.block m hT.mlt (fun hk => by rcases hk with hk | hk; exact hbm hk.symm; exact hT.fm hk))
    have hb1' : ob w1 b = some (.cells #[.int .i64 most, .bool true, .map (some m), fv', .int .i64 last] 63 (0, 0)) := hb1
    have d2 : w1.cell? ⟨b, 2, none⟩ = some (.map (some m)) := cell_of_ob hb1' 2
    have hbl1 := ob_lt hb1'
    obtain ⟨id, hid⟩ : ∃ id, id = at' free 0 := ⟨_, rfl⟩
    rw [← hid] at hp1
    rw [← hid]
    have HID := Lib.hid hid
    clear hid c0 c2 c3 c4 f4
    go_wp2_with (at_mapUpdate; go_must (refine wpList_upd rfl _ _ _ _ rfl rfl id rfl ((1, frame, -1) : A3) rfl key_ik Try.underlying60 (hm1.of rfl) ?_; intro o2 hm2))
    have hoq : ∀ q, fv'.ownBlock = some q → q ≠ m := fun q hq => by
      rcases ho1 q hq with h | h
      · exact fun e => hT.fm (by rw [h, e])
      · have := hT.mlt; simp at h; omega
    refine bodyPost_ret (v := .tuple #[.int .i64 id, .int .i64 0]) (by simp [results, Try.results11, go_sem]) rfl ⟨id, rfl, last, free', .inr ⟨fun e => by rw [e] at hE3; simp at hE3, HID.out, rfl, hp1⟩, .turn hT hown hfr hlt (fv' := fv') ⟨(ob_putOb_ne _ _ _ _ hbm).trans hb1', hm2, ?_, hh1⟩ ?_ ho1⟩
    · exact hs1.of fun q hq => ob_putOb_ne _ _ _ _ (hoq q hq)
    · exact (hfW.mono' (fun k hk => by rcases hk with hk | hk; exact .inl hk; exact .inr (.inr hk))).putOb _ _ (.inl (.inr (.inl rfl)))
end
end Go.Proofs.Ytalinhpdibdlkaa
