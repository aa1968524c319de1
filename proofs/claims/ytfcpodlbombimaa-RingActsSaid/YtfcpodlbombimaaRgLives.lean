/- pantrylaw02.lives holds. No conditions. -/
import Derived.Test.YtfcpodlbombimaaRgGS
namespace Go.Proofs.Ytfcpodlbombimaa
open Go.RowKit
set_option linter.unusedSimpArgs false
set_option linter.unusedVariables false
section
variable {κ : Type} [DecidableEq κ] {a b : κ}
theorem live1 (a : κ) : may [[], []] 0 a = true ∧ pushR [[], []] 0 a = [[a], []] := by
  have h : may [[], []] 0 a = true := by simp [may]
  exact ⟨h, by unfold pushR; rw [if_pos h]; simp [remL, putL]⟩
theorem live2 (hab : a ≠ b) : may [[a], []] 0 b = true ∧ pushR [[a], []] 0 b = [[a, b], []] := by
  have h : may [[a], []] 0 b = true := by simp [may]
  exact ⟨h, by unfold pushR; rw [if_pos h]; simp [remL, putL, hab]⟩
theorem live3 (hab : a ≠ b) : may [[a, b], []] 1 a = true ∧ pushR [[a, b], []] 1 a = [[b], [a]] := by
  have h : may [[a, b], []] 1 a = true := by simp [may]
  exact ⟨h, by unfold pushR; rw [if_pos h]; simp [remL, putL, hab.symm]⟩
end
abbrev sa : ByteArray := { data := #[97] }
abbrev sb : ByteArray := { data := #[98] }
theorem sab : sa ≠ sb := by decide
set_option maxRecDepth 100000 in
set_option maxHeartbeats 4000000 in
theorem lives_any (w : World) : Calls Try.prog 11 #[] w fun e w' => e = .returned (.bool true) ∧ Fr (fun _ => False) w w' := by
  have hnew : Calls Try.prog 35 #[.int .i64 2] w _ := newS_rx 2 (by decide) (by decide) w
  go_enter Try.func11, Try.ntmps11
  go_wp2_with fail
  refine hnew.mono ?_
  clear hnew
  rintro e w1 ⟨b, r, m, rfl, h1, hf1⟩
  have hp1 := pushS_rx h1 0 sa
  rw [show List.replicate 2 ([] : List ByteArray) = [[], []] from rfl, (live1 sa).1, (live1 sa).2] at hp1
  go_wp2_with fail
  refine hp1.mono ?_
  clear hp1
  rintro e w2 ⟨rfl, h2, hf2⟩
  have hp2 := pushS_rx h2 0 sb
  rw [(live2 sab).1, (live2 sab).2] at hp2
  go_wp2_with fail
  refine hp2.mono ?_
  clear hp2
  rintro e w3 ⟨rfl, h3, hf3⟩
  have hp3 := pushS_rx h3 1 sa
  rw [(live3 sab).1, (live3 sab).2] at hp3
  go_wp2_with fail
  refine hp3.mono ?_
  clear hp3
  rintro e w4 ⟨rfl, h4, hf4⟩
  have hi0 := firstS_rx h4 0
  go_wp2_with fail
  refine hi0.mono ?_
  clear hi0
  rintro e w5 ⟨x, ok, rfl, hF, hf5⟩
  obtain ⟨rfl, rfl⟩ : ok = true ∧ x = .string sb := by
    rcases hF with ⟨rfl, y, t, hy, rfl⟩ | ⟨rfl, hy, rfl⟩
    · rw [show rowAtS [[sb], [sa]] 0 = [sb] from rfl] at hy; cases hy; exact ⟨rfl, rfl⟩
    · rw [show rowAtS [[sb], [sa]] 0 = [sb] from rfl] at hy; cases hy
  clear hF
  have h5 := h4.keep hf5
  have hi1 := firstS_rx h5 1
  go_wp2_with fail
  refine hi1.mono ?_
  clear hi1
  rintro e w6 ⟨x, ok, rfl, hF, hf6⟩
  obtain ⟨rfl, rfl⟩ : ok = true ∧ x = .string sa := by
    rcases hF with ⟨rfl, y, t, hy, rfl⟩ | ⟨rfl, hy, rfl⟩
    · rw [show rowAtS [[sb], [sa]] 1 = [sa] from rfl] at hy; cases hy; exact ⟨rfl, rfl⟩
    · rw [show rowAtS [[sb], [sa]] 1 = [sa] from rfl] at hy; cases hy
  clear hF
  have h6 := h5.keep hf6
  have hl : Calls Try.prog 38 #[.pointer (some ⟨b, 0, none⟩), .int .i64 0] w6 fun e w' => e = .returned (.int .i64 1) ∧ w' = w6 := lenS_rx h6 0
  have hr : Calls Try.prog 39 #[.pointer (some ⟨b, 0, none⟩)] w6 fun e w' => e = .returned (.int .i64 2) ∧ w' = w6 := rowsS_rx h6
  have hfin : Fr (fun _ => False) w w6 := by
    have k2 : Fr (fun _ => False) w w2 := hf1.step hf2 (fun k hk => .inr hk)
    have z1 := hf1.size
    have z2 := hf2.size
    have z3 := hf3.size
    have k3 : Fr (fun _ => False) w w3 := k2.step hf3 (fun k hk => .inr (by omega))
    have k4 : Fr (fun _ => False) w w4 := k3.step hf4 (fun k hk => .inr (by omega))
    exact (k4.step hf5 (fun k hk => .inl hk)).step hf6 (fun k hk => .inl hk)
  clear h1 h2 h3 h4 h5 hf1 hf2 hf3 hf4 hf5 hf6
  go_wp2_with fail
  refine hl.mono ?_
  rintro e w7 ⟨rfl, rfl⟩
  go_wp2_with fail
  refine hr.mono ?_
  rintro e w7 ⟨rfl, rfl⟩
  go_wp2
  go_ret
  exact ⟨rfl, hfin⟩
end Go.Proofs.Ytfcpodlbombimaa
