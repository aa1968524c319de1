/- AnonMany returns true: the walk. No conditions. -/
import Derived.Test.YtalinhpdibdlkaaAnPool
import Derived.Test.YtalinhpdibdlkaaAnF
namespace Go.Proofs.Ytalinhpdibdlkaa
open Go.RowKit
set_option linter.unusedSimpArgs false
set_option linter.unusedVariables false
def OnesOK (j : Nat) (l : List (Int × A3)) : Prop := PoolI j [] l ∧ l.length = j ∧ refsS l = j ∧ ∀ k a, alGet l k = some a → a.1 = 1
theorem OnesOK.make {j : Nat} {l : List (Int × A3)} (h : OnesOK j l) {id last' : Int} {free' : List Int} (hM : Made [] j id last' free') (f : Int) : id = (j : Int) + 1 ∧ last' = ((j + 1 : Nat) : Int) ∧ free' = [] ∧ OnesOK (j + 1) (alSet l id (1, f, -1)) := by
  obtain ⟨h1, h2, h3, h4⟩ := h
  obtain ⟨g1, g2, g3, g4, g5, g6, g7, g8⟩ := h1.make hM (fun j _ hj => by simp at hj) f
  obtain ⟨e1, e2, e3⟩ := hM.fresh
  refine ⟨e1, by omega, e3, ?_, by omega, by omega, fun k a hk => ?_⟩
  · have : last' = ((j + 1 : Nat) : Int) := by omega
    rw [← this, ← e3]; exact g2
  · rw [alGet_set] at hk
    split at hk
    · cases hk; rfl
    · exact h4 k a hk
/-- One goes, one comes. -/
theorem OnesOK.gone {N : Nat} {l : List (Int × A3)} (h : OnesOK N l) {K : Nat} (hK1 : 1 ≤ K) (hK2 : K ≤ N) {y : A3} {er : Int} {free' : List Int} {l' : List (Int × A3)} (hc : ChOut (refRes (-1)) [] l (K : Int) y er free' l') :
    er = 0 ∧ PoolI N free' l' ∧ l'.length + 1 = N ∧ free' = [(K : Int)] ∧ refsS l' = (N : Int) - 1 := by
  obtain ⟨h1, h2, h3, h4⟩ := h
  obtain ⟨a, ha⟩ := get_of_mem_keys (l := l) (k := (K : Int)) (by simpa using (h1.all (K : Int)).2 ⟨by omega, by omega⟩)
  have ha1 := h4 _ _ ha
  have hr : refRes (-1) a = (0, (0, a.2)) := by unfold refRes; rw [if_neg (by omega), ha1]; rfl
  obtain ⟨c1, c2, c3, c4⟩ := h1.change hc (fun a hg he => by have := refRes_ok (h1.refsOK _ _ hg) he; omega)
  rcases c4 with ⟨b, hb, _, he, _, _, hs, h5⟩ | ⟨_, _, _, h5⟩
  · rw [ha] at hb; cases hb
    rw [hr] at h5 hs
    rcases h5 with ⟨_, _, h6, h7⟩ | ⟨h6, _⟩
    · exact ⟨he, c1, by omega, List.perm_singleton.1 h7, by rw [hs, ha1, h3]; simp⟩
    · exact absurd rfl h6
  · rcases h5 with ⟨h6, _⟩ | ⟨b, hb, h6, _⟩
    · rw [ha] at h6; cases h6
    · rw [ha] at hb; cases hb
      rw [hr] at h6; exact absurd rfl h6
set_option maxRecDepth 100000 in
set_option maxHeartbeats 4000000 in
theorem many_walk (W : World) (most drop : Int) (hm0 : 0 ≤ most) (hm1 : most ≤ 18446744073709551615) (hd0 : 0 ≤ drop) (hd1 : drop ≤ 18446744073709551615) :
    Calls Try.prog 5 #[.int .u64 most, .int .u64 drop] W fun e w' => e = .returned (.bool true) ∧ Fr (fun _ => False) W w' := by
  obtain ⟨N, hN, hN1, hN2⟩ : ∃ N : Nat, 1 + most % 200 = N ∧ 1 ≤ N ∧ N ≤ 200 := ⟨(1 + most % 200).toNat, by omega, by omega, by omega⟩
  obtain ⟨K, hK, hK1, hK2⟩ : ∃ K : Nat, 1 + drop % (N : Int) = K ∧ 1 ≤ K ∧ K ≤ N := by
    have h1 := Int.emod_nonneg drop (show (N : Int) ≠ 0 by omega)
    have h2 := Int.emod_lt_of_pos drop (show (0 : Int) < N by omega)
    exact ⟨(1 + drop % (N : Int)).toNat, by omega, by omega, by omega⟩
  have hnew := new_any N (by omega) (by omega) W
  go_enter Try.func5, Try.ntmps5
  go_wp2_with fail
  try simp only [hN]
  refine hnew.mono ?_
  rintro e w1 ⟨b, m, rfl, hX1, -, -, -⟩
  clear hnew
  go_wp2_with fail
  go_loopw [7] (fun si wr => ∃ (j : Nat) (l : List (Int × A3)), j ≤ N ∧ si = .int .i64 ((j : Int) + 1) ∧ PoolX (fun k => k < W.heap.size) W wr b m N j [] l ∧ Hid (OnesOK j l)) (fun si _ => N + 1 - (intOf si).toNat)
  case atStart => exact ⟨0, [], by omega, rfl, hX1, Lib.hid ⟨PoolI.start, rfl, rfl, fun k a h => by cases h⟩⟩
  case round =>
    obtain ⟨j, l, hj, rfl, hX, HO⟩ := hrel
    clear hX1
    have hlen : l.length = j := HO.out.2.1
    by_cases hlt : j < N
    · have hmk := make_any hX (by omega) (by simp) (by omega) ((j : Int) + 1)
      have HLEN := Lib.hid hlen
      clear hlen
      go_wp2_with fail
      refine hmk.mono ?_
      rintro e w3 ⟨id, rfl, last', free', hM, hX3⟩
      clear hmk
      obtain ⟨e1, e2, e3, hO⟩ := HO.out.make hM ((j : Int) + 1)
      subst e1 e3
      rw [e2] at hX3
      have HO2 := Lib.hid hO
      have HM := Lib.hid hM
      clear hO hM e2 hN hK
      go_wp2
      go_roundw
      case rel => exact ⟨j + 1, _, by omega, by go_num, hX3, HO2⟩
      case measure => simp [intOf]; omega
    · obtain rfl : j = N := by omega
      have hmf := make_full hX (by omega) 0
      have HLEN := Lib.hid hlen
      clear hlen hN
      go_wp2_with fail
      refine hmf.mono ?_
      rintro e w3 ⟨rfl, hf3⟩
      clear hmf
      have hX3 := hX.keep hf3
      have hle := len_any hX3
      rw [HLEN.out] at hle
      clear hX
      go_wp2_with fail
      refine hle.mono ?_
      rintro e w4 ⟨rfl, rfl⟩
      clear hle
      go_wp2_with fail
      try simp only [hK]
      have hrf := ref_any (id' := (K : Int)) hX3 (by simp) (fun a hg => HO.out.1.refsOK _ _ hg) (-1)
      clear hK
      refine hrf.mono ?_
      rintro e w5 ⟨⟨y1, y2, y3⟩, er, rfl, free', l', hc, hX5⟩
      clear hrf
      obtain ⟨rfl, hP5, hl5, rfl, hs5⟩ := HO.out.gone hK1 hK2 hc
      have HP5 := Lib.hid hP5
      have HS5 := Lib.hid hs5
      have HC := Lib.hid hc
      obtain ⟨L5, hL5⟩ : ∃ L5, l'.length = L5 := ⟨_, rfl⟩
      have HL5 := Lib.hid hL5
      rw [hL5] at hl5
      clear hP5 hs5 hc hX3 hL5
      have hL51 : (L5 : Int) = (j : Int) - 1 := by omega
      simp only [a3]
      have hX6 := hX5.keep ((Fr.refl _ w5).alloc (.cells #[.int .i64 y1, .int .i64 y2, .int .i64 y3] 32))
      have hle := len_any hX6
      rw [HL5.out, hL51] at hle
      have HL51 := Lib.hid hL51
      clear hX5 hL51
      go_wp2_with fail
      refine hle.mono ?_
      rintro e w6 ⟨rfl, rfl⟩
      clear hle
      have hmk := make_any hX6 (by rw [HL5.out]; omega) (by simp) (by omega) 0
      go_wp2_with fail
      refine hmk.mono ?_
      rintro e w7 ⟨id, rfl, last', free', hM, hX7⟩
      clear hmk
      obtain ⟨g1, g2, g3, g4, g5, g6, g7, g8⟩ := HP5.out.make hM hX6.heap 0
      have hid : id = (K : Int) := by
        rcases hM with ⟨h, _⟩ | ⟨_, h, _⟩
        · cases h
        · rw [h]; rfl
      subst hid
      have hsum := sum_any hX7 (g2.keysOK (by omega) (by rw [g5, HL5.out]; omega)) g2.refsOK
      rw [g2.sum, g6, HS5.out, show (j : Int) - 1 + 1 = j by omega] at hsum
      clear hM g1 g2 g3 g4 g5 g6 g7 g8 hX6
      go_wp2_with fail
      refine hsum.mono ?_
      rintro e w8 ⟨rfl, hf8⟩
      clear hsum
      have hX8 := hX7.keep hf8
      go_wp2_with fail
      refine (lives_any _).mono ?_
      rintro e w9 ⟨rfl, hf9⟩
      have hfin := hX8.fr.step hf9 (fun _ h => h.elim)
      clear hX7 hX8
      go_wp2
      go_ret
      exact ⟨rfl, hfin.mono (S2 := fun _ => False) (fun k hk h => h hk)⟩
end Go.Proofs.Ytalinhpdibdlkaa
