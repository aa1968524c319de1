/- The document's examples of anons ('lives'). No conditions. -/
import Derived.Test.YtalinhpdibdlkaaAnE
namespace Go.Proofs.Ytalinhpdibdlkaa
open Go.RowKit
set_option linter.unusedSimpArgs false
set_option linter.unusedVariables false
def a3eq (a b c x y z : Int) : Bool := a == x && b == y && c == z
theorem eqin_anon (a b c x y z : Int) (w : World) : (Op.equalIn 10000 32 (.agg #[.int .i64 a, .int .i64 b, .int .i64 c]) (.agg #[.int .i64 x, .int .i64 y, .int .i64 z])).run Try.prog w = .ok (a3eq a b c x y z) w := by
  unfold a3eq
  have u3 := Try.underlying3
  have a3 := Try.isAgg3
  have z3 := Try.sizeOf3
  have hS : Try.prog.underlying 32 = some (.struct (Try.prog.fieldsOf 32)) := by kernel_rfl
  rw [show (10000 : Nat) = 9999 + 1 from rfl, run_equalIn_agg w 9999 32 _ _ hS (by kernel_rfl)]
  simp only [Program.fieldsOf, Try.underlying32]
  go_simp
  by_cases h1 : a = x <;> by_cases h2 : b = y <;> by_cases h3 : c = z <;> simp [h1, h2, h3]
def eqAnon (a b c x y z : Int) : Sem Value := binOp .eql 32 (.agg #[.int .i64 a, .int .i64 b, .int .i64 c]) (.agg #[.int .i64 x, .int .i64 y, .int .i64 z])
@[go_sem high] theorem to_eqAnon (a b c x y z : Int) : binOp .eql 32 (.agg #[.int .i64 a, .int .i64 b, .int .i64 c]) (.agg #[.int .i64 x, .int .i64 y, .int .i64 z]) = eqAnon a b c x y z := rfl
@[go_sem] theorem run_eqAnon (a b c x y z : Int) (w : World) : (eqAnon a b c x y z).run Try.prog w = .ok (.bool (a3eq a b c x y z)) w := by
  change Sem.run Try.prog (Op.equalIn 10000 32 _ _ >>= _) w = _
  rw [Sem.run_bind, eqin_anon]
  rfl
theorem Made.fresh {last id last' : Int} {free' : List Int} (h : Made [] last id last' free') : id = last + 1 ∧ last' = last + 1 ∧ free' = [] := by
  rcases h with ⟨_, h1, h2, h3⟩ | ⟨h, _⟩
  · exact ⟨h1, h2, h3⟩
  · exact absurd rfl h
set_option maxRecDepth 100000 in
set_option maxHeartbeats 2000000 in
theorem lives_any (w : World) : Calls Try.prog 10 #[] w fun e w' => e = .returned (.bool true) ∧ Fr (fun _ => False) w w' := by
  go_enter Try.func10, Try.ntmps10
  go_wp2_with fail
  refine (new_any 9 (by omega) (by omega) w).mono ?_
  rintro e w1 ⟨b, m, rfl, hX1, hf1, hb, hm⟩
  go_wp2_with fail
  refine (make_any hX1 (by simp) (by simp) (by omega) 5).mono ?_
  rintro e w2 ⟨id, rfl, last', free', hM, hX2⟩
  obtain ⟨rfl, rfl, rfl⟩ := hM.fresh
  have e1 : alSet ([] : List (Int × A3)) ((0 : Int) + 1) (1, 5, -1) = [(1, (1, 5, -1))] := rfl
  rw [e1] at hX2
  clear e1
  go_wp2_with fail
  refine (make_any hX2 (by simp) (by simp) (by omega) 6).mono ?_
  rintro e w3 ⟨id, rfl, last', free', hM, hX3⟩
  obtain ⟨rfl, rfl, rfl⟩ := hM.fresh
  have e1 : alSet [((1 : Int), ((1, 5, -1) : A3))] ((0 : Int) + 1 + 1) (1, 6, -1) = [(1, (1, 5, -1)), (2, (1, 6, -1))] := rfl
  rw [e1] at hX3
  clear e1
  go_wp2_with fail
  refine (ref_any (id' := 1) hX3 (by simp) (fun a ha => by simp [alGet] at ha; subst ha; simp) (-1)).mono ?_
  rintro e w4 ⟨⟨y1, y2, y3⟩, er, rfl, free', l', hC, hX4⟩
  have hC2 : er = 0 ∧ free' = [1] ∧ l' = [(2, (1, 6, -1))] := by
    have e2 : alGet [((1 : Int), ((1, 5, -1) : A3)), (2, (1, 6, -1))] 1 = some (1, 5, -1) := rfl
    unfold ChOut at hC
    rw [e2] at hC
    simp [refRes, alSet, alDel] at hC
    exact ⟨hC.2.1, hC.2.2.1, hC.2.2.2⟩
  obtain ⟨rfl, rfl, rfl⟩ := hC2
  clear hC
  simp only [a3]
  go_wp2_with fail
  have hf5 : Fr (fun _ => False) w4 (w4.alloc (.cells #[.int .i64 y1, .int .i64 y2, .int .i64 y3] 32)) := (Fr.refl _ _).alloc _
  refine (make_any (hX4.keep hf5) (by simp) (by simp) (by omega) 7).mono ?_
  rintro e w6 ⟨id, rfl, last', free', hM, hX6⟩
  have hM2 : id = 1 := by
    rcases hM with ⟨h, _⟩ | ⟨_, h, _⟩
    · cases h
    · exact h
  subst hM2
  have e1 : alSet [((2 : Int), ((1, 6, -1) : A3))] 1 (1, 7, -1) = [(2, (1, 6, -1)), (1, (1, 7, -1))] := rfl
  rw [e1] at hX6
  clear e1 hM
  go_wp2_with fail
  refine (get_any (id' := 1) hX6).mono ?_
  have e2 : alGet [((2 : Int), ((1, 6, -1) : A3)), (1, (1, 7, -1))] 1 = some (1, 7, -1) := rfl
  rw [e2]
  rintro e w7 ⟨rfl, hf7⟩
  simp only [Option.getD_some, Option.isSome_some, a3]
  have h3 : a3eq 1 7 (-1) 1 7 (-1) = true := by decide
  go_wp2
  go_ret
  refine ⟨rfl, ((hX6.fr.mono (fun k hk h => h hk)).also hf7).alloc _⟩
end Go.Proofs.Ytalinhpdibdlkaa
