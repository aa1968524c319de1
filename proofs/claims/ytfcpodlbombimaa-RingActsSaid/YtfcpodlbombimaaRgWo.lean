/- pantrylaw02.without, with; acts that came in. Conditions: bounds on lengths. -/
import Derived.Test.YtfcpodlbombimaaRgFull
import Derived.Test.YtfcpodlbombimaaRgList
import Derived.Test.YtfcpodlbombimaaRgLeaf
namespace Go.Proofs.Ytfcpodlbombimaa
open Go.RowKit
set_option linter.unusedSimpArgs false
set_option linter.unusedVariables false
set_option maxRecDepth 100000 in
set_option maxHeartbeats 4000000 in
theorem without_any {w : World} {v : Value} {l : List Int} (h : SKI w v l) (hl : l.length ≤ 5000) (n : Int) :
    Calls Try.prog 22 #[v, .int .i64 n] w fun e w' => ∃ A N C, e = .returned (.slice A N C) ∧ SKI w' (.slice A N C) (outI l n) ∧ (∀ k, (Value.slice A N C).ownBlock = some k → w.heap.size ≤ k) ∧ Fr (fun _ => False) w w' := by
  obtain ⟨A, N, C, rfl⟩ := h.shape
  have hN : N = l.length := SKI.elen h
  have HN := Lib.hid hN
  have hN5 : N ≤ 5000 := by omega
  clear hN hl
  go_enter Try.func22, Try.ntmps22
  go_wp2_with fail
  go_loopw [10, 5] (fun si sl w4 => ∃ (t : Nat), t ≤ N ∧ si = .int .i64 t ∧ SKI w4 sl (outI (l.take t) n) ∧ Hid (Fr (fun _ => False) w w4 ∧ ∀ k, sl.ownBlock = some k → w.heap.size ≤ k)) (fun si _ _ => N - (intOf si).toNat)
  case atStart => exact ⟨0, by omega, rfl, Sl.nil _ _ _, Lib.hid ⟨Fr.refl _ _, fun k hk => (by cases hk)⟩⟩
  case round =>
    obtain ⟨t, htN, rfl, hsl, HI⟩ := hrel
    have hol : (outI (l.take t) n).length ≤ 1000000 := by have := outI_len (l.take t) n; rw [List.length_take] at this; omega
    by_cases hlt2 : t < N
    · obtain ⟨x, hx⟩ : ∃ x, l[t]? = some x := ⟨_, List.getElem?_eq_getElem (by have := HN.out; omega)⟩
      obtain ⟨g2, off2, n2, cap2, heq, hgl2, -, -, d0⟩ := SKI.item (Sl.fr h HI.out.1 (fun _ _ h => h)) hx
      cases heq
      have HX := Lib.hid (outI_snoc n hx)
      clear hx
      by_cases hxn : x = n
      · subst hxn
        go_wp2
        go_roundw
        case rel =>
          refine ⟨t + 1, by omega, by go_num, ?_, HI⟩
          rw [HX.out]; simpa using hsl
        case measure => simp [intOf]; omega
      · have HXN := Lib.hid hxn
        have hbne : (x != n) = true := by simp [hxn]
        clear hxn
        go_wp2_with (at_builtin; go_must (refine wpList_appI rfl _ _ rfl rfl (Sl.alloc hsl _) wr.heap.size x rfl (ob_newAt _ _ _ rfl) hol ?_; intro A2 N2 C2 w5 hs5 hf5 ho5))
        go_roundw
        case rel =>
          refine ⟨t + 1, by omega, by go_num, ?_, Lib.hid ⟨(HI.out.1.alloc _).step hf5 (fun k hk => .inr (HI.out.2 k hk)), fun k hk => ?_⟩⟩
          · rw [HX.out, if_neg HXN.out]; exact hs5
          · rcases ho5 k hk with h | h
            · exact HI.out.2 k h
            · have := HI.out.1.size; simp at h; omega
        case measure => simp [intOf]; omega
    · obtain rfl : t = N := by omega
      have hall : l.take t = l := by rw [HN.out, List.take_length]
      rw [hall] at hsl hol
      clear hall
      obtain ⟨A5, N5, C5, rfl⟩ := hsl.shape
      go_wp2
      go_ret
      exact ⟨_, _, _, rfl, hsl, HI.out.2, HI.out.1⟩
theorem with_any {w : World} {v : Value} {l : List Int} (h : SKI w v l) (hl : l.length ≤ 5000) (n : Int) :
    Calls Try.prog 21 #[v, .int .i64 n] w fun e w' => ∃ A N C, e = .returned (.slice A N C) ∧ SKI w' (.slice A N C) (outI l n ++ [n]) ∧ (∀ k, (Value.slice A N C).ownBlock = some k → w.heap.size ≤ k) ∧ Fr (fun _ => False) w w' := by
  obtain ⟨A0, N0, C0, rfl⟩ := h.shape
  have hwo := without_any h hl n
  have hol : (outI l n).length ≤ 1000000 := by have := outI_len l n; omega
  go_enter Try.func21, Try.ntmps21
  go_wp2_with fail
  refine hwo.mono ?_
  rintro e w1 ⟨A, N, C, rfl, hs, ho, hf⟩
  clear hwo
  go_wp2_with (at_builtin; go_must (refine wpList_appI rfl _ _ rfl rfl (Sl.alloc hs _) w1.heap.size n rfl (ob_newAt _ _ _ rfl) hol ?_; intro A2 N2 C2 w5 hs5 hf5 ho5))
  go_ret
  refine ⟨_, _, _, rfl, hs5, fun k hk => ?_, (hf.alloc _).step hf5 (fun k hk => .inr (ho k hk))⟩
  rcases ho5 k hk with h | h
  · exact ho k h
  · have := hf.size; simp at h; omega
/-- An act on rows: its kind, its row, its item. -/
abbrev Ra := Int × Int × Int
def ra (a : Ra) : List Value := [.int .i64 a.1, .int .i64 a.2.1, .int .i64 a.2.2]
theorem leaf_ra (cs : List Value) (h : leafAll [.int .i64, .int .i64, .int .i64] cs) : ∃ x : Ra, ra x = cs ∧ True := by
  obtain ⟨hl, h⟩ := h
  obtain ⟨a, ha, m, rfl, _⟩ := h 0 _ rfl
  obtain ⟨b, hb, n, rfl, _⟩ := h 1 _ rfl
  obtain ⟨c, hc, o, rfl, _⟩ := h 2 _ rfl
  match cs, hl, ha, hb, hc with
  | [_, _, _], _, rfl, rfl, rfl => exact ⟨(m, n, o), rfl, trivial⟩
theorem len_ras (l : List Ra) : (l.flatMap ra).length = l.length * 3 := by
  induction l with
  | nil => rfl
  | cons a t ih => rw [List.flatMap_cons, List.length_append, ih, List.length_cons]; simp [ra]; omega
theorem ras_get {l : List Ra} {j : Nat} {a : Ra} (h : l[j]? = some a) (i : Nat) (hi : i < 3) : (l.flatMap ra)[j * 3 + i]? = (ra a)[i]? := by
  induction l generalizing j with
  | nil => cases h
  | cons x t ih =>
    cases j with
    | zero =>
      simp at h; subst h
      rw [List.flatMap_cons, List.getElem?_append_left (by simp [ra]; omega)]; simp
    | succ j =>
      rw [List.getElem?_cons_succ] at h
      rw [List.flatMap_cons, List.getElem?_append_right (by simp [ra]; omega)]
      have := ih h
      rw [← this]
      congr 1; simp [ra]; omega
theorem Rd.act {w : World} {v : Value} {l : List Ra} (h : Rd w 3 v (l.flatMap ra)) {j : Nat} {a : Ra} (hj : l[j]? = some a) :
    ∃ g off n cap, v = .slice (some ⟨g, off, none⟩) n cap ∧ g < w.heap.size ∧ w.cell? ⟨g, off + j * 3, none⟩ = some (.int .i64 a.1) ∧ w.cell? ⟨g, off + j * 3 + 1, none⟩ = some (.int .i64 a.2.1) ∧ w.cell? ⟨g, off + j * 3 + 2, none⟩ = some (.int .i64 a.2.2) := by
  obtain ⟨g, off, n, cap, heq, hgl, hcs, hl⟩ := Rd.form h (by
    intro e
    have h0 := ras_get hj 0 (by omega)
    rw [e] at h0; cases h0)
  refine ⟨g, off, n, cap, heq, hgl, ?_, ?_, ?_⟩
  · exact hcs (j * 3) _ (by rw [show j * 3 = j * 3 + 0 by rfl, ras_get hj 0 (by omega)]; rfl)
  · rw [Nat.add_assoc]; exact hcs (j * 3 + 1) _ (by rw [ras_get hj 1 (by omega)]; rfl)
  · rw [Nat.add_assoc]; exact hcs (j * 3 + 2) _ (by rw [ras_get hj 2 (by omega)]; rfl)
end Go.Proofs.Ytfcpodlbombimaa
