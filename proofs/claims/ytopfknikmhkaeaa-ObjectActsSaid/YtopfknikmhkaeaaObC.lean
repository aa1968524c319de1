/- object.Pool: Drop. No conditions. -/
import Derived.Test.YtopfknikmhkaeaaObB
namespace Go.Proofs.Ytopfknikmhkaeaa
open Go.RowKit
set_option linter.unusedSimpArgs false
set_option linter.unusedVariables false
attribute [local go_sem] Oper.semAt_some
section
variable {w w1 : World} {b m : Nat} {most : Int} {L : List (Int × Ent)} {l : List (Int × Obt)} {S : Nat → Prop} {k : Int} {e e' : Ent}
set_option maxRecDepth 100000 in
set_option maxHeartbeats 2000000 in
theorem drop_any (h : ObX b most l w S) (id ix : Int) : Calls Try.prog 16 #[.pointer (some ⟨b, 0, none⟩), .int .i64 id, .int .i64 ix] w fun e w' =>
      e = .returned (.bool (dropR l id ix).1) ∧ ObX b most (dropR l id ix).2 w' S ∧ Fr S w w' := by
  have hget := get_any h id ix
  obtain ⟨g, hg⟩ : ∃ g, g = getR' l id ix := ⟨_, rfl⟩
  rw [← hg] at hget
  obtain ⟨⟨r1, r2, r3⟩, hr⟩ : ∃ r : Pg, r = g.getD (0, 0, false) := ⟨_, rfl⟩
  rw [← hr] at hget
  obtain ⟨m, L, hT, hl, hS⟩ := h
  rcases g with _ | p
  · have hd : dropR l id ix = (false, l) := by
      unfold getR' at hg
      unfold dropR
      rcases ho : alGet l id with _ | o
      · rfl
      · rw [ho] at hg
        simp only [Option.bind_some] at hg
        simp only [← hg]
    rw [hd]
    simp only [Option.isSome_none] at hget
    clear hg hr hd
    go_enter Try.func16, Try.ntmps16
    go_wp2_with fail
    refine hget.mono ?_
    rintro e w1 ⟨rfl, hf1⟩
    simp only [pgV]
    go_wp2
    go_ret
    exact ⟨rfl, ⟨m, L, hT.keep (hf1.alloc _), hl, hS⟩, (hf1.alloc _).mono' (fun _ h => h.elim)⟩
  · simp only [Option.isSome_some] at hget
    subst hl
    unfold getR' at hg
    unfold dropR
    rw [get_outL] at hg ⊢
    rcases he : alGet L id with _ | ⟨q, pm, f, n, pgs⟩
    · rw [he] at hg; cases hg
    · rw [he] at hg
      simp only [Option.map_some, Option.bind_some] at hg
      simp only [Option.map_some, ← hg]
      have HE := Lib.hid he
      clear hg hr he
      go_enter Try.func16, Try.ntmps16
      go_wp2_with fail
      refine hget.mono ?_
      rintro e w1 ⟨rfl, hf1⟩
      simp only [pgV]
      go_wp2_with fail
      have hf2 := hf1.alloc (.cells #[.int .i64 r1, .int .i64 r2, .bool r3] 34)
      have hT2 := hT.keep hf2
      obtain ⟨w2, hw2⟩ : ∃ w2, w2 = w1.alloc (.cells #[.int .i64 r1, .int .i64 r2, .bool r3] 34) := ⟨_, rfl⟩
      rw [← hw2] at hf2 hT2
      rw [← hw2]
      clear hw2
      have hof := of_any hT2 id (some q) (by rw [HE.out]; rfl)
      obtain ⟨hq, hpm⟩ := hT2.one id _ HE.out
      dsimp only at hq hpm
      have hql := ob_lt hq
      have d2 : w2.cell? ⟨q, 2, none⟩ = some (.map (some pm)) := cell_of_ob hq 2
      refine hof.mono ?_
      rintro e w3 ⟨rfl, rfl⟩
      simp only [ptrV, Option.map_some]
      go_wp2_with (at_delete; go_must (refine wpList_del rfl _ _ _ _ rfl rfl ix rfl key_ik Try.underlying72 (hpm.of rfl) ?_; intro o2 hm2))
      have hX := hT2.set (e' := (q, pm, f, n, alDel pgs ix)) (w1 := putOb w2 pm o2) HE.out rfl rfl ⟨(ob_putOb_ne _ _ _ _ (hT2.onepg HE.out HE.out)).trans hq, hm2⟩ ((Fr.refl _ _).putOb _ _ (.inl (.inr rfl)))
      refine (tidy_any hX id).mono ?_
      rintro e w4 ⟨rfl, hX4, hf4⟩
      go_wp2
      go_ret
      refine ⟨rfl, ⟨m, _, hX4, ?_, fun k hk => hS k (objS_set (e' := (q, pm, f, n, alDel pgs ix)) HE.out rfl rfl (objS_tidy hX.nodup hk))⟩, ?_⟩
      · rw [outL_tidy, outL_set]
      · exact ((hf2.mono' (fun _ h => h.elim)).putOb pm o2 (.inl (hS _ (.inr (.inr ⟨id, _, HE.out, .inr rfl⟩))))).step hf4 (fun k hk => .inl (by rw [hk]; exact hS _ (.inr (.inl rfl))))
end
end Go.Proofs.Ytopfknikmhkaeaa
