/- pantrylaw14.with: numbers with one more, each once. Conditions: at most 100000 of them. -/
import Derived.Test.YtopfknikmhkaeaaObH
import Derived.Test.YtopfknikmhkaeaaUints
namespace Go.Proofs.Ytopfknikmhkaeaa
open Go.RowKit
set_option linter.unusedSimpArgs false
set_option linter.unusedVariables false
attribute [local go_sem] Oper.semAt_some
theorem infoI : (Try.prog.info? 3).map (fun i => (i.zero, i.size, i.bytes)) = some (some (.int .i64 0), 1, 8) := by kernel_rfl
theorem ints_one (l : List Int) : ∀ u ∈ ints l, u.oneCell' = true := fun u hu => by
  obtain ⟨n, _, rfl⟩ := List.mem_map.1 hu
  rfl
set_option maxRecDepth 100000 in
set_option maxHeartbeats 4000000 in
theorem with_any {w : World} {A : Option Addr} {N C : Nat} {l : List Int} (h : Sl w 3 1 (.slice A N C) (ints l)) (hl : l.length ≤ 100000) (n : Int) (l' : List Int) (hl' : (if n ∈ l then l else l ++ [n]) = l') :
    Calls Try.prog 13 #[.slice A N C, .int .i64 n] w fun e w' => ∃ A' N' C', e = .returned (.slice A' N' C') ∧ Sl w' 3 1 (.slice A' N' C') (ints l') ∧
      (∀ k, (Value.slice A' N' C').ownBlock = some k → (Value.slice A N C).ownBlock = some k ∨ w.heap.size ≤ k) ∧ Fr (fun _ => False) w w' := by
  have hN : N = l.length := by have := h.len; simp only [List.length_map, sliceLen] at this; omega
  have hN5 : N ≤ 100000 := by omega
  have HN := Lib.hid hN
  have HL' := Lib.hid hl'
  clear hN hl'
  obtain ⟨i0, hi, hz, hsz, hby⟩ := info_ofG infoI
  go_enter Try.func13, Try.ntmps13
  go_wp2_with fail
  go_loop [9] (fun si => ∃ t : Nat, t ≤ N ∧ si = .int .i64 t ∧ Hid (∀ i : Nat, i < t → l[i]? ≠ some n)) (fun si => N - (intOf si).toNat)
  case atStart => exact ⟨0, by omega, rfl, Lib.hid (fun i hi => by omega)⟩
  case round =>
    obtain ⟨t, ht, rfl, HF⟩ := hrel
    by_cases hlt : t < N
    · obtain ⟨x, hx⟩ : ∃ x, l[t]? = some x := ⟨_, List.getElem?_eq_getElem (by have := HN.out; omega)⟩
      have hki : (ints l)[t]? = some (.int .i64 x) := by rw [List.getElem?_map, hx]; rfl
      obtain ⟨g, off, n', cap', heq, hgl, hcs, -, -⟩ := h.form (by intro e; rw [e] at hki; cases hki)
      cases heq
      have c0 := hcs t _ hki
      have HX := Lib.hid hx
      clear hx hki hcs
      by_cases hxn : x = n
      · have hm : n ∈ l := by rw [← hxn]; exact List.mem_of_getElem? HX.out
        have hll : l = l' := by have := HL'.out; rwa [if_pos hm] at this
        have HLL := Lib.hid hll
        clear hll
        go_wp2
        go_ret
        exact ⟨_, _, _, rfl, by rw [← HLL.out]; exact h, fun k hk => .inl hk, Fr.refl _ _⟩
      · go_wp2
        go_round
        case rel =>
          refine ⟨t + 1, by omega, by go_num, Lib.hid (fun i hi hc => ?_)⟩
          by_cases hit : i < t
          · exact HF.out i hit hc
          · have : i = t := by omega
            rw [this, HX.out] at hc
            exact hxn (Option.some.inj hc)
        case measure => simp [intOf]; omega
    · obtain rfl : t = N := by omega
      have hm : n ∉ l := fun hm => by
        obtain ⟨i, hi, hc⟩ := List.mem_iff_getElem.1 hm
        exact HF.out i (by rw [HN.out]; exact hi) (by rw [List.getElem?_eq_getElem hi, hc])
      have hll : l ++ [n] = l' := by have := HL'.out; rwa [if_neg hm] at this
      have HLL := Lib.hid hll
      clear hll hm
      go_wp2_with (at_builtin; go_must (first
        | (refine wpList_appsrc (v := .slice (some ⟨w.heap.size, 0, none⟩) 0 0) (y := .slice A t C) rfl _ _ _ rfl Try.underlying31 hi hz hsz hby rfl (by decide) rfl (Sl.builtAt _ [] 0 _ (by simp) rfl (by decide)) rfl (h.alloc _) (ints_one l) (by simp only [sliceLen, maxLen]; omega) (by simp only [sliceLen]; omega) ?_; intro v3 w3 hs3 hf3 ho3 hl3; obtain ⟨A3, N3, C3, rfl⟩ := hs3.shape; obtain rfl : N3 = t := (by have h1 : N3 = 0 + t := hl3; omega); rw [List.nil_append] at hs3)
        | (refine wpList_app (v := .slice A3 N3 C3) rfl _ _ _ rfl Try.underlying31 hi hz hsz hby rfl (by decide) rfl (hs3.alloc _) w3.heap.size 1 1 [.int .i64 n] rfl (ob_new _ _) rfl (by simp [Value.oneCell']) (by decide) (by simp only [maxLen, sliceLen]; omega) (by simp only [sliceLen]; omega) ?_; intro v4 w4 hs4 hf4 ho4 hl4; obtain ⟨A4, N4, C4, rfl⟩ := hs4.shape)))
      go_ret
      have hf3w : Fr (fun _ => False) w w3 := (((Fr.refl _ w).alloc _).step hf3 (fun k hk => .inr (by cases hk; exact Nat.le_refl _)))
      have hn3 : ∀ k, (Value.slice A3 N3 C3).ownBlock = some k → w.heap.size ≤ k := fun k hk => by
        rcases ho3 with h | ⟨q, h, hq⟩
        · rw [h] at hk; cases hk; exact Nat.le_refl _
        · rw [h] at hk; cases hk; simp at hq; omega
      refine ⟨_, _, _, rfl, by rw [← HLL.out]; simpa [ints] using hs4, fun k hk => .inr ?_, (hf3w.alloc _).step hf4 (fun k hk => .inr (hn3 k hk))⟩
      have hsz3 := hf3w.size
      rcases ho4 with h | ⟨q, h, hq⟩
      · rw [h] at hk; exact hn3 k hk
      · rw [h] at hk; cases hk; simp at hq; omega
end Go.Proofs.Ytopfknikmhkaeaa
