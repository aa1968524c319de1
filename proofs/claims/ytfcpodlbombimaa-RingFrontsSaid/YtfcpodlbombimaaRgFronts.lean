/- RingFronts returns true: the walk. No conditions. -/
import Derived.Test.YtfcpodlbombimaaRgFull
import Derived.Test.YtfcpodlbombimaaRgLastsP
namespace Go.Proofs.Ytfcpodlbombimaa
open Go.RowKit
set_option linter.unusedSimpArgs false
set_option linter.unusedVariables false
/-- The numbers below m, falling, turned t times. -/
def fq (m t : Nat) : List Int := (List.range m).map (fun i : Nat => (m : Int) - 1 - (((t + i) % m : Nat) : Int))
theorem fq_len (m t : Nat) : (fq m t).length = m := by simp [fq]
theorem fq_get {m t i : Nat} (hi : i < m) : (fq m t)[i]? = some ((m : Int) - 1 - (((t + i) % m : Nat) : Int)) := by
  simp [fq, hi]
theorem fq_cons (i : Nat) : fq (i + 1) 0 = (i : Int) :: fq i 0 := by
  apply List.ext_getElem?
  intro j
  by_cases hj : j < i + 1
  · rw [fq_get hj]
    cases j with
    | zero => simp
    | succ j =>
      have hj2 : j < i := by omega
      rw [List.getElem?_cons_succ, fq_get hj2, Nat.zero_add, Nat.zero_add, Nat.mod_eq_of_lt hj, Nat.mod_eq_of_lt hj2]
      congr 1; omega
  · rw [List.getElem?_eq_none (by rw [fq_len]; omega), List.getElem?_eq_none (by rw [List.length_cons, fq_len]; omega)]
theorem fq_turn {m t : Nat} (hm : 0 < m) : ∃ y r, fq m t = y :: r ∧ fq m (t + 1) = r ++ [y] := by
  have h0 := fq_get (m := m) (t := t) (i := 0) hm
  cases hq : fq m t with
  | nil => have := fq_len m t; rw [hq] at this; simp at this; omega
  | cons y r =>
    refine ⟨y, r, rfl, ?_⟩
    have hlen := fq_len m t
    rw [hq, List.length_cons] at hlen
    rw [hq] at h0
    apply List.ext_getElem?
    intro j
    by_cases hj : j < m
    · rw [fq_get hj]
      by_cases hj2 : j < r.length
      · rw [List.getElem?_append_left hj2]
        have h1 := fq_get (m := m) (t := t) (i := j + 1) (by omega)
        rw [hq, List.getElem?_cons_succ] at h1
        rw [h1]
        congr 2; congr 1; congr 1; omega
      · have e : j = r.length := by omega
        rw [List.getElem?_append_right (by omega), e, Nat.sub_self]
        simp only [List.getElem?_cons_zero] at h0 ⊢
        rw [h0]
        have e2 : (t + 1 + r.length) % m = (t + 0) % m := by
          rw [show t + 1 + r.length = t + 0 + m by omega, Nat.add_mod_right]
        rw [e2]
    · rw [List.getElem?_eq_none (by rw [fq_len]; omega), List.getElem?_eq_none (by simp; omega)]
theorem fronts_front (i : Nat) (hi : i < 1000) : may [fq i 0] 0 i = true ∧ frontR [fq i 0] 0 i = [fq (i + 1) 0] := by
  have hmay : may [fq i 0] 0 i = true := may_iff.2 ⟨by omega, by simp, .inr (by simp [fq_len]; omega)⟩
  have hni : (i : Int) ∉ fq i 0 := fun h => by
    simp only [fq, List.mem_map, List.mem_range] at h
    obtain ⟨j, hj, he⟩ := h
    omega
  refine ⟨hmay, ?_⟩
  unfold frontR
  rw [if_pos hmay]
  simp only [remL, List.map_cons, List.map_nil]
  rw [filt_not hni, fq_cons]
  rfl
theorem fronts_turn (m t : Nat) (hm : m < 1000) (hn : (fq m t).Nodup) : (!(rowAtI [fq m t] 0).isEmpty) = decide ((0 : Int) < m) ∧ turnRI [fq m t] 0 = [fq m (t + 1)] := by
  have h1 : rowAtI [fq m t] 0 = fq m t := rfl
  by_cases h0 : 0 < m
  · obtain ⟨y, r, hq, hq2⟩ := fq_turn (t := t) h0
    have hlen := fq_len m t
    rw [hq, List.length_cons] at hlen
    rw [hq] at hn
    refine ⟨by rw [h1, hq]; simp [h0], ?_⟩
    have hmay : may [y :: r] 0 y = true := may_iff.2 ⟨by omega, by simp, .inl (by simp)⟩
    unfold turnRI
    rw [h1, hq, hq2]
    simp only
    unfold pushR
    rw [if_pos hmay]
    simp only [remL, List.map_cons, List.map_nil]
    have : (y :: r).filter (fun z => !decide (z = y)) = r := outI_head y r hn
    rw [this]
    rfl
  · obtain rfl : m = 0 := by omega
    exact ⟨rfl, rfl⟩
theorem fronts_shift (y : Int) (t : List Int) (hn : (y :: t).Nodup) : shiftRI [y :: t] 0 = [t] := by
  have h1 : rowAtI [y :: t] 0 = y :: t := rfl
  unfold shiftRI
  rw [h1]
  simp only [remL, List.map_cons, List.map_nil]
  have : (y :: t).filter (fun z => !decide (z = y)) = t := outI_head y t hn
  rw [this]
set_option maxRecDepth 100000 in
set_option maxHeartbeats 8000000 in
theorem fronts_walk (W : World) (n k : Int) (hn0 : 0 ≤ n) (hn1 : n ≤ 18446744073709551615) (hk0 : 0 ≤ k) (hk1 : k ≤ 18446744073709551615) :
    Calls Try.prog 9 #[.int .u64 n, .int .u64 k] W fun e w' => e = .returned (.bool true) ∧ Fr (fun _ => False) W w' := by
  obtain ⟨M, hM, hM5⟩ : ∃ M : Nat, n % 50 = M ∧ M < 50 := ⟨(n % 50).toNat, by omega, by omega⟩
  obtain ⟨T, hT, hT6⟩ : ∃ T : Nat, k % 60 = T ∧ T < 60 := ⟨(k % 60).toNat, by omega, by omega⟩
  have hnew : Calls Try.prog 10 #[.int .i64 1] W _ := newB 1 (by decide) (by decide) W
  go_enter Try.func9, Try.ntmps9
  go_wp2_with fail
  refine hnew.mono ?_
  clear hnew
  rintro e w1 ⟨b, r, m, rfl, h1⟩
  go_wp2_with fail
  simp only [hM]
  go_loopw [7] (fun si wr => ∃ (i : Nat), i ≤ M ∧ si = .int .i64 i ∧ RB W wr b r m [fq i 0]) (fun si _ => M - (intOf si).toNat)
  case atStart => exact ⟨0, by omega, rfl, h1⟩
  case round =>
    obtain ⟨i, hi, rfl, hrx⟩ := hrel
    by_cases hlt : i < M
    · obtain ⟨q1, q2⟩ := fronts_front i (by omega)
      have hp := frontB hrx 0 i
      rw [q1, q2] at hp
      clear q1 q2
      go_wp2_with fail
      refine hp.mono ?_
      rintro e w3 ⟨rfl, h3⟩
      clear hp
      go_wp2
      go_roundw
      case rel => exact ⟨i + 1, by omega, by go_num, h3⟩
      case measure => simp [intOf]; omega
    · obtain rfl : i = M := by omega
      clear h1 hM hi hlt
      go_wp2_with fail
      simp only [hT]
      go_loopw [9] (fun si wr => ∃ (t : Nat), t ≤ T ∧ si = .int .i64 t ∧ RB W wr b r m [fq i t]) (fun si _ => T - (intOf si).toNat)
      case atStart => exact ⟨0, by omega, rfl, hrx⟩
      case round =>
        obtain ⟨t, ht, rfl, hrt⟩ := hrel
        by_cases hlt : t < T
        · have hnd : (fq i t).Nodup := by have := hrt.nodup; simpa using this
          obtain ⟨q1, q2⟩ := fronts_turn i t (by omega) hnd
          have hp := turnB hrt 0
          rw [q1, q2] at hp
          clear q1 q2 hnd hrx
          by_cases hi0 : 0 < i
          · have hi1 : (0 : Int) < i := by omega
            rw [decide_eq_true hi1] at hp
            go_wp2_with fail
            refine hp.mono ?_
            rintro e w3 ⟨rfl, h3⟩
            clear hp
            go_wp2
            go_roundw
            case rel => exact ⟨t + 1, by omega, by go_num, h3⟩
            case measure => simp [intOf]; omega
          · have hi1 : ¬ ((0 : Int) < i) := by omega
            have hi2 : (i : Int) ≤ 0 := by omega
            rw [decide_eq_false hi1] at hp
            go_wp2_with fail
            refine hp.mono ?_
            rintro e w3 ⟨rfl, h3⟩
            clear hp
            go_wp2
            go_roundw
            case rel => exact ⟨t + 1, by omega, by go_num, h3⟩
            case measure => simp [intOf]; omega
        · obtain rfl : t = T := by omega
          clear hrx hT ht hlt
          have hnd0 : (fq i t).Nodup := by have := hrt.nodup; simpa using this
          have HND := Lib.hid hnd0
          clear hnd0
          go_wp2_with fail
          go_loopw [10] (fun si wr => ∃ (j : Nat), j ≤ i ∧ si = .int .i64 j ∧ RB W wr b r m [(fq i t).drop j]) (fun si _ => i - (intOf si).toNat)
          case atStart => exact ⟨0, by omega, rfl, hrt⟩
          case round =>
            obtain ⟨j, hj, rfl, hrj⟩ := hrel
            by_cases hlt : j < i
            · have hx := fq_get (t := t) hlt
              have hdr : (fq i t).drop j = ((i : Int) - 1 - (((t + j) % i : Nat) : Int)) :: (fq i t).drop (j + 1) := by
                have h6 := (List.getElem?_eq_some_iff.1 hx)
                rw [← h6.2, List.drop_eq_getElem_cons h6.1]
              have hnd := HND.out.sublist (List.drop_sublist j _)
              have hsh := shiftB hrj 0
              rw [hdr] at hsh hnd
              rw [fronts_shift _ _ hnd] at hsh
              have hmod : (((t + j) % i : Nat) : Int) = ((t : Int) + (j : Int)) % (i : Int) := by simp
              have hmod2 : ((t : Int) + (j : Int)).tmod (i : Int) = ((t : Int) + (j : Int)) % (i : Int) := Int.tmod_eq_emod_of_nonneg (by omega)
              obtain ⟨z, hz⟩ : ∃ z : Int, ((t : Int) + (j : Int)) % (i : Int) = z := ⟨_, rfl⟩
              have hz0 : 0 ≤ z := by rw [← hz]; exact Int.emod_nonneg _ (by omega)
              have hz1 : z < i := by rw [← hz]; exact Int.emod_lt_of_pos _ (by omega)
              rw [hmod, hz] at hsh
              clear hx hdr hnd hrt hmod
              go_wp2_with fail
              refine hsh.mono ?_
              rintro e w3 ⟨v, ok, rfl, hF, h3⟩
              clear hsh
              obtain ⟨rfl, rfl⟩ : ok = true ∧ v = .int .i64 ((i : Int) - 1 - z) := by
                rcases hF with ⟨rfl, y, t2, hy, rfl⟩ | ⟨rfl, hy, rfl⟩
                · cases hy; exact ⟨rfl, rfl⟩
                · cases hy
              clear hF
              go_wp2
              go_roundw
              case rel => exact ⟨j + 1, by omega, by go_num, h3⟩
              case measure => simp [intOf]; omega
            · obtain rfl : j = i := by omega
              have hdr : (fq j t).drop j = [] := List.drop_of_length_le (by rw [fq_len]; omega)
              rw [hdr] at hrj
              have l0 : Calls Try.prog 18 #[.pointer (some ⟨b, 0, none⟩), .int .i64 0] wr fun e w' => e = .returned (.int .i64 0) ∧ w' = wr := lenI_rx hrj.1 0
              have HF := Lib.hid hrj.2
              clear hdr hrj hrt
              go_wp2_with fail
              refine l0.mono ?_
              rintro e w8 ⟨rfl, rfl⟩
              clear l0
              go_wp2_with fail
              refine (lives_any _).mono ?_
              rintro e w9 ⟨rfl, hf9⟩
              go_wp2
              go_ret
              exact ⟨rfl, alsoI HF.out hf9⟩
end Go.Proofs.Ytfcpodlbombimaa
