/- TlbEldest: of keys that are all unlike the newest are kept, in order. No conditions. -/
import Derived.Test.YtehgfhcpjeepkaaTabF
import Derived.ProofKit
import Derived.OpenShut
namespace Go.Proofs.Ytehgfhcpjeepkaa
open Go.RowKit
set_option linter.unusedSimpArgs false
set_option linter.unusedVariables false
theorem alSet_new {κ α : Type} [DecidableEq κ] : ∀ (l : List (κ × α)) (k : κ) (v : α), k ∉ l.map (·.1) → alSet l k v = l ++ [(k, v)]
  | [], k, v, _ => rfl
  | (x, u) :: l, k, v, h => by
    have hx : x ≠ k := fun e => h (by simp [e])
    simp only [alSet, hx, if_false, List.cons_append]
    rw [alSet_new l k v (fun h2 => h (by simp at h2 ⊢; exact .inr h2))]
/-- What is kept when the pages below j have been put, of n at most. -/
def eldL (n j : Nat) : List (K2 × K2) := ((List.range j).drop (j - n)).map (fun i : Nat => (((1 : Int), (i : Int)), ((0 : Int), (i : Int))))
theorem eldL_len (n j : Nat) : (eldL n j).length = j - (j - n) := by simp [eldL]
theorem eldL_succ (n j : Nat) : tput n (eldL n j) (1, j) (0, j) = eldL n (j + 1) := by
  have hnew : ((1 : Int), (j : Int)) ∉ (eldL n j).map (·.1) := by
    intro h
    simp only [eldL, List.map_map, List.mem_map, Function.comp] at h
    obtain ⟨i, hi, he⟩ := h
    have := List.mem_range.1 (List.drop_subset _ _ hi)
    simp at he
    omega
  unfold tput
  rw [alSet_new _ _ _ hnew]
  have hr : List.range (j + 1) = List.range j ++ [j] := List.range_succ
  have hl : (eldL n j ++ [(((1 : Int), (j : Int)), ((0 : Int), (j : Int)))]).length = j - (j - n) + 1 := by simp [eldL_len]
  rw [hl]
  by_cases h : j < n
  · rw [if_neg (by omega)]
    unfold eldL
    rw [show j - n = 0 by omega, show j + 1 - n = 0 by omega, hr]
    simp
  · rw [if_pos (by omega)]
    unfold eldL
    rw [hr]
    by_cases hn : n = 0
    · subst hn
      rw [List.drop_of_length_le (by simp), List.drop_of_length_le (by simp)]
      simp
    · rw [show j + 1 - n = (j - n) + 1 by omega, List.drop_append_of_le_length (by simp; omega), List.map_append, List.tail_append_of_ne_nil (by simp; omega), List.map_drop, List.map_drop, List.tail_drop]
      simp
set_option maxHeartbeats 2000000 in
theorem eldest_walk (a0 a1 : Int) (h0 : 0 ≤ a0) (h1 : 0 ≤ a1) (w : World) :
    Calls Try.prog 3 #[.int .u64 a0, .int .u64 a1] w fun e w' => e = .returned (.bool true) ∧ Fr (fun _ => False) w w' := by
  go_enter Try.func3, Try.ntmps3
  go_wp2_with fail
  obtain ⟨N, hN, hN30⟩ : ∃ N : Nat, a0 % 30 = N ∧ N < 30 := ⟨(a0 % 30).toNat, by omega, by omega⟩
  obtain ⟨M, hM, hM60⟩ : ∃ M : Nat, a1 % 60 = M ∧ M < 60 := ⟨(a1 % 60).toNat, by omega, by omega⟩
  simp only [hN, hM]
  clear hN hM h0 h1
  refine (new_any N (by omega) (by omega) w).mono ?_
  rintro e w1 ⟨b, m, rfl, hT, hf1, hb, hm⟩
  have hX := TabX.new hT
  clear hT
  go_wp2_with fail
  go_loopw [8] (fun i wr => ∃ j : Nat, j ≤ M ∧ i = .int .i64 j ∧ TabX w1 wr b N m (eldL N j)) (fun i _ => M - (intOf i).toNat)
  case atStart => exact ⟨0, by omega, rfl, by simpa [eldL] using hX⟩
  case round =>
    obtain ⟨j, hj, rfl, hx⟩ := hrel
    by_cases hlt : j < M
    · have HL := Lib.hid (eldL_succ N j)
      go_wp2_with fail
      refine (putX hx (1, j) (0, j) ?_).mono ?_
      · rw [HL.out, eldL_len]; omega
      rintro e w2 ⟨rfl, hx2⟩
      go_wp2
      go_roundw
      case rel => exact ⟨j + 1, by omega, by go_num, by rw [← HL.out]; exact hx2⟩
      case measure => simp [intOf]; omega
    · obtain rfl : j = M := by omega
      obtain ⟨F, hF⟩ : ∃ F : Nat, F = j - N := ⟨_, rfl⟩
      have HF := Lib.hid hF
      by_cases hjn : j < N
      · have hF0 : F = 0 := by omega
        have HF0 := Lib.hid hF0
        clear hF hF0
        go_wp2_with fail
        rw [show Value.int .i64 0 = Value.int .i64 (F : Int) by rw [HF0.out]; rfl]
        refine (keysX hx).mono ?_
        rintro e w2 ⟨v', rfl, hsl, hx2, hf2, hown⟩
        have hlen := hsl.len
        rw [len_flat, List.length_map, eldL_len, ← HF.out] at hlen
        obtain ⟨A, L, C, rfl⟩ : ∃ A L C, v' = .slice A L C := by
          rcases hsl with ⟨rfl, _⟩ | ⟨g, off, n, cap, row, rfl, _⟩ <;> exact ⟨_, _, _, rfl⟩
        simp only [sliceLen] at hlen
        have hFj : F ≤ j := by have := HF.out; omega
        have hLj : L = j - F := by omega
        have hne : ((L : Int) != (j : Int) - (F : Int)) = false := by rw [bne_eq_false_iff_eq]; omega
        have hF60 : F < 60 := by omega
        have hL60 : L < 60 := by omega
        have HLj := Lib.hid hLj
        clear hlen hLj
        go_wp2_with fail
        go_loopw [49] (fun i wr => ∃ q : Nat, q ≤ L ∧ i = .int .i64 q ∧ Fr (fun _ => False) w2 wr) (fun i _ => L - (intOf i).toNat)
        case atStart => exact ⟨0, by omega, rfl, Fr.refl _ _⟩
        case round =>
          obtain ⟨q, hq, rfl, hfq⟩ := hrel
          by_cases hqL : q < L
          · have hkq : ((eldL N j).map (·.1))[q]? = some (1, ((F : Int) + (q : Int))) := by
              unfold eldL
              rw [← HF.out]
              have := HLj.out
              simp only [List.map_map, List.getElem?_map, List.getElem?_drop]
              rw [List.getElem?_range (by omega)]
              simp
            obtain ⟨hg0, hg1⟩ := flat_get _ q _ hkq
            have hslq := hsl.fr hfq (fun _ _ h => h)
            obtain ⟨g, off, n', cap', heq, hgl, hcs, _, _⟩ := hslq.form (by intro e0; rw [e0] at hg0; cases hg0)
            cases heq
            have hc0 := hcs _ _ hg0
            have hc1 := hcs _ _ hg1
            rw [← Nat.add_assoc] at hc1
            clear hkq hg0 hg1 hcs hslq
            go_wp2_with fail
            go_roundw
            case rel => exact ⟨q + 1, by omega, by go_num, hfq.alloc _⟩
            case measure => simp [intOf]; omega
          · obtain rfl : q = L := by omega
            have hx3 := hx2.keep hfq
            have e1 : (eldL N j).filter (fun y => !(y.1.1 == 2)) = eldL N j := by
              rw [List.filter_eq_self]
              intro y hy
              obtain ⟨i, _, rfl⟩ := List.mem_map.1 hy
              rfl
            have e2 : (eldL N j).filter (fun y => !(y.1.1 == 1)) = [] := by
              rw [List.filter_eq_nil_iff]
              intro y hy
              obtain ⟨i, _, rfl⟩ := List.mem_map.1 hy
              simp
            have e3 : ((eldL N j).length : Int) - (([] : List (K2 × K2)).length : Int) = (j : Int) - (F : Int) := by
              rw [eldL_len, ← HF.out]
              simp only [List.length_nil]
              omega
            have E3 := Lib.hid e3
            clear e3
            go_wp2_with fail
            refine (flushAsidX hx3 2).mono ?_
            rw [e1, Int.sub_self]
            rintro e w4 ⟨rfl, hx4⟩
            go_wp2_with fail
            refine (flushAsidX hx4 1).mono ?_
            rw [e2, E3.out]
            rintro e w5 ⟨rfl, hx5⟩
            clear e1 e2
            go_wp2_with fail
            refine (lenX hx5).mono ?_
            rintro e w6 ⟨rfl, rfl⟩
            go_wp2_with fail
            refine (lives_any _).mono ?_
            rintro e w7 ⟨rfl, hf7⟩
            go_wp2
            go_ret
            exact ⟨rfl, (hf1.step hx5.fr (fun k hk => by rcases hk with rfl | rfl <;> omega)).step hf7 (fun _ h => h.elim)⟩
      · have hF2 : (j : Int) - (N : Int) = (F : Int) := by omega
        have HF2 := Lib.hid hF2
        clear hF hF2
        go_wp2_with fail
        rw [HF2.out]
        refine (keysX hx).mono ?_
        rintro e w2 ⟨v', rfl, hsl, hx2, hf2, hown⟩
        have hlen := hsl.len
        rw [len_flat, List.length_map, eldL_len, ← HF.out] at hlen
        obtain ⟨A, L, C, rfl⟩ : ∃ A L C, v' = .slice A L C := by
          rcases hsl with ⟨rfl, _⟩ | ⟨g, off, n, cap, row, rfl, _⟩ <;> exact ⟨_, _, _, rfl⟩
        simp only [sliceLen] at hlen
        have hFj : F ≤ j := by have := HF.out; omega
        have hLj : L = j - F := by omega
        have hne : ((L : Int) != (j : Int) - (F : Int)) = false := by rw [bne_eq_false_iff_eq]; omega
        have hF60 : F < 60 := by omega
        have hL60 : L < 60 := by omega
        have HLj := Lib.hid hLj
        clear hlen hLj
        go_wp2_with fail
        go_loopw [49] (fun i wr => ∃ q : Nat, q ≤ L ∧ i = .int .i64 q ∧ Fr (fun _ => False) w2 wr) (fun i _ => L - (intOf i).toNat)
        case atStart => exact ⟨0, by omega, rfl, Fr.refl _ _⟩
        case round =>
          obtain ⟨q, hq, rfl, hfq⟩ := hrel
          by_cases hqL : q < L
          · have hkq : ((eldL N j).map (·.1))[q]? = some (1, ((F : Int) + (q : Int))) := by
              unfold eldL
              rw [← HF.out]
              have := HLj.out
              simp only [List.map_map, List.getElem?_map, List.getElem?_drop]
              rw [List.getElem?_range (by omega)]
              simp
            obtain ⟨hg0, hg1⟩ := flat_get _ q _ hkq
            have hslq := hsl.fr hfq (fun _ _ h => h)
            obtain ⟨g, off, n', cap', heq, hgl, hcs, _, _⟩ := hslq.form (by intro e0; rw [e0] at hg0; cases hg0)
            cases heq
            have hc0 := hcs _ _ hg0
            have hc1 := hcs _ _ hg1
            rw [← Nat.add_assoc] at hc1
            clear hkq hg0 hg1 hcs hslq
            go_wp2_with fail
            go_roundw
            case rel => exact ⟨q + 1, by omega, by go_num, hfq.alloc _⟩
            case measure => simp [intOf]; omega
          · obtain rfl : q = L := by omega
            have hx3 := hx2.keep hfq
            have e1 : (eldL N j).filter (fun y => !(y.1.1 == 2)) = eldL N j := by
              rw [List.filter_eq_self]
              intro y hy
              obtain ⟨i, _, rfl⟩ := List.mem_map.1 hy
              rfl
            have e2 : (eldL N j).filter (fun y => !(y.1.1 == 1)) = [] := by
              rw [List.filter_eq_nil_iff]
              intro y hy
              obtain ⟨i, _, rfl⟩ := List.mem_map.1 hy
              simp
            have e3 : ((eldL N j).length : Int) - (([] : List (K2 × K2)).length : Int) = (j : Int) - (F : Int) := by
              rw [eldL_len, ← HF.out]
              simp only [List.length_nil]
              omega
            have E3 := Lib.hid e3
            clear e3
            go_wp2_with fail
            refine (flushAsidX hx3 2).mono ?_
            rw [e1, Int.sub_self]
            rintro e w4 ⟨rfl, hx4⟩
            go_wp2_with fail
            refine (flushAsidX hx4 1).mono ?_
            rw [e2, E3.out]
            rintro e w5 ⟨rfl, hx5⟩
            clear e1 e2
            go_wp2_with fail
            refine (lenX hx5).mono ?_
            rintro e w6 ⟨rfl, rfl⟩
            go_wp2_with fail
            refine (lives_any _).mono ?_
            rintro e w7 ⟨rfl, hf7⟩
            go_wp2
            go_ret
            exact ⟨rfl, (hf1.step hx5.fr (fun k hk => by rcases hk with rfl | rfl <;> omega)).step hf7 (fun _ h => h.elim)⟩
end Go.Proofs.Ytehgfhcpjeepkaa
