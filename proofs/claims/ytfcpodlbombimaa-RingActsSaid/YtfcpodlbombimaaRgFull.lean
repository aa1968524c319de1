/- RingFull returns true: the walk. No conditions. -/
import Derived.Test.YtfcpodlbombimaaRgFront
import Derived.Test.YtfcpodlbombimaaRgP
namespace Go.Proofs.Ytfcpodlbombimaa
open Go.RowKit
set_option linter.unusedSimpArgs false
set_option linter.unusedVariables false
theorem flt_perm {l : List Int} (hn : l.Nodup) {x : Int} (hx : x ∈ l) : l.Perm (x :: outI l x) := by
  have h2 : (x :: outI l x).Nodup := List.nodup_cons.2 ⟨by simp [outI], hn.sublist List.filter_sublist⟩
  refine (List.perm_ext_iff_of_nodup hn h2).2 fun y => ?_
  simp only [outI, List.mem_cons, List.mem_filter, Bool.not_eq_true', decide_eq_false_iff_not]
  constructor
  · intro hy
    by_cases h : y = x
    · exact .inl h
    · exact .inr ⟨hy, h⟩
  · rintro (rfl | h)
    · exact hx
    · exact h.1
theorem flt_len {l : List Int} (hn : l.Nodup) {x : Int} (hx : x ∈ l) : (outI l x).length + 1 = l.length := by
  have := (flt_perm hn hx).length_eq
  simpa using this.symm
theorem flt_out {l : List Int} {x : Int} (hx : x ∉ l) : outI l x = l := filt_not hx
theorem put_perm {L : List (List Int)} {n x : Int} (h : may L n x = true) (f : List Int → List Int) (hf : ∀ l, (f l).Perm (x :: l)) : (putL (remL L x) n f).flatten.Perm (x :: outI L.flatten x) ∧ (putL (remL L x) n f).length = L.length := by
  have hm : 0 ≤ n ∧ n < L.length ∧ (x ∈ L.flatten ∨ L.flatten.length < 4096) := by simpa [may] using h
  obtain ⟨j, rfl⟩ : ∃ j : Nat, n = j := ⟨n.toNat, by omega⟩
  obtain ⟨l, hl⟩ : ∃ l, (remL L x)[j]? = some l := ⟨_, List.getElem?_eq_getElem (by rw [rem_len]; omega)⟩
  rw [putL_atI hl]
  refine ⟨?_, by rw [List.length_set, rem_len]⟩
  have := flat_set hl (hf l)
  rw [flat_rem] at this
  exact this
theorem push_perm {L : List (List Int)} {n x : Int} (h : may L n x = true) : (pushR L n x).flatten.Perm (x :: outI L.flatten x) ∧ (pushR L n x).length = L.length := by
  unfold pushR
  rw [if_pos h]
  exact put_perm h _ (fun l => List.perm_append_comm.trans (by simp))
theorem front_perm {L : List (List Int)} {n x : Int} (h : may L n x = true) : (frontR L n x).flatten.Perm (x :: outI L.flatten x) ∧ (frontR L n x).length = L.length := by
  unfold frontR
  rw [if_pos h]
  exact put_perm h _ (fun l => List.Perm.refl _)
theorem push_no {L : List (List Int)} {n x : Int} (h : may L n x = false) : pushR L n x = L := by unfold pushR; rw [if_neg (by rw [h]; simp)]
theorem front_no {L : List (List Int)} {n x : Int} (h : may L n x = false) : frontR L n x = L := by unfold frontR; rw [if_neg (by rw [h]; simp)]
theorem may_iff {L : List (List Int)} {n x : Int} : may L n x = true ↔ 0 ≤ n ∧ n < L.length ∧ (x ∈ L.flatten ∨ L.flatten.length < 4096) := by simp [may]
theorem may_no {L : List (List Int)} {n x : Int} (h1 : x ∉ L.flatten) (h2 : 4096 ≤ L.flatten.length) : may L n x = false := may_false fun h => h.2.2.elim h1 (fun h => by omega)
theorem lens4 {L : List (List Int)} (h : L.length = 4) : (rowAtI L 0).length + (rowAtI L 1).length + (rowAtI L 2).length + (rowAtI L 3).length = L.flatten.length := by
  match L, h with
  | [a, b, c, d], _ => simp [rowAtI]; omega
theorem full_push {L : List (List Int)} (i : Nat) (h4 : L.length = 4) (hi : i < 4096) (hm : ∀ x, x ∈ L.flatten ↔ 0 ≤ x ∧ x < (i : Int)) (hl : L.flatten.length = i) :
    may L ((i : Int) % 4) i = true ∧ (pushR L ((i : Int) % 4) i).length = 4 ∧ (∀ x, x ∈ (pushR L ((i : Int) % 4) i).flatten ↔ 0 ≤ x ∧ x < ((i + 1 : Nat) : Int)) ∧ (pushR L ((i : Int) % 4) i).flatten.length = i + 1 := by
  have hmay : may L ((i : Int) % 4) i = true := may_iff.2 ⟨by omega, by rw [h4]; omega, .inr (by omega)⟩
  obtain ⟨h1, h2⟩ := push_perm hmay
  have hni : (i : Int) ∉ L.flatten := fun h => by have := (hm i).1 h; omega
  rw [flt_out hni] at h1
  refine ⟨hmay, by rw [h2, h4], fun x => ?_, by rw [h1.length_eq, List.length_cons, hl]⟩
  rw [h1.mem_iff, List.mem_cons, hm]
  omega
/-- What comes behind the loop. -/
theorem full_end {L : List (List Int)} (k : Int) (h4 : L.length = 4) (hn : L.flatten.Nodup) (hm : ∀ x, x ∈ L.flatten ↔ 0 ≤ x ∧ x < 4096) (hl : L.flatten.length = 4096) (hk0 : 0 ≤ k) (hk : k < 4096) :
    may L 0 4096 = false ∧ may L 1 (-1) = false ∧ may L 2 k = true ∧ hasR (pushR L 2 k) k = true ∧ may (remL (pushR L 2 k) k) 3 9999 = true ∧ may (pushR (remL (pushR L 2 k) k) 3 9999) 3 k = false ∧
      (rowAtI (pushR (remL (pushR L 2 k) k) 3 9999) 0).length + (rowAtI (pushR (remL (pushR L 2 k) k) 3 9999) 1).length + (rowAtI (pushR (remL (pushR L 2 k) k) 3 9999) 2).length + (rowAtI (pushR (remL (pushR L 2 k) k) 3 9999) 3).length = 4096 := by
  have hkin : k ∈ L.flatten := (hm k).2 ⟨hk0, hk⟩
  have m2 : may L 2 k = true := may_iff.2 ⟨by omega, by rw [h4]; omega, .inl hkin⟩
  obtain ⟨p1, p2⟩ := push_perm m2
  have p3 : (pushR L 2 k).flatten.Perm L.flatten := p1.trans (flt_perm hn hkin).symm
  have e1 : (remL (pushR L 2 k) k).flatten = outI (pushR L 2 k).flatten k := flat_rem _ _
  have n2 : (pushR L 2 k).flatten.Nodup := p3.nodup_iff.2 hn
  have l2 := p3.length_eq
  have l3 : (remL (pushR L 2 k) k).flatten.length = 4095 := by
    have := flt_len n2 (p3.mem_iff.2 hkin)
    rw [e1]; omega
  have no9 : (9999 : Int) ∉ (remL (pushR L 2 k) k).flatten := fun h => by
    rw [e1] at h
    have h2 : (9999 : Int) ∈ (pushR L 2 k).flatten := (List.mem_filter.1 h).1
    have := (hm _).1 (p3.mem_iff.1 h2); omega
  have hl4 : (remL (pushR L 2 k) k).length = 4 := by rw [rem_len, p2, h4]
  have m3 : may (remL (pushR L 2 k) k) 3 9999 = true := may_iff.2 ⟨by omega, by rw [hl4]; omega, .inr (by omega)⟩
  obtain ⟨q1, q2⟩ := push_perm m3
  rw [flt_out no9] at q1
  have l4 := q1.length_eq
  rw [List.length_cons, l3] at l4
  refine ⟨may_no (fun h => by have := (hm _).1 h; omega) (by omega), may_no (fun h => by have := (hm _).1 h; omega) (by omega), m2, hasR_true (p3.mem_iff.2 hkin), m3, may_no (fun h => ?_) (by omega), ?_⟩
  · rcases List.mem_cons.1 (q1.mem_iff.1 h) with h | h
    · omega
    · exact rem_not _ _ h
  · rw [lens4 (by rw [q2, hl4]), l4]
/-- A ring that a law's function made, and all else as it was. -/
def RB (W w : World) (b r m : Nat) (L : List (List Int)) : Prop := RXI w (fun k => W.heap.size ≤ k) b r m L ∧ Fr (fun _ => False) W w
section
variable {W w : World} {b r m : Nat} {L : List (List Int)}
theorem RB.step {w' : World} {L' : List (List Int)} (h : RB W w b r m L) (h' : RXI w' (fun k => W.heap.size ≤ k ∨ w.heap.size ≤ k) b r m L') (hf : Fr (fun k => W.heap.size ≤ k) w w') : RB W w' b r m L' :=
  ⟨h'.wide (fun k hk => hk.elim id (fun h2 => Nat.le_trans h.2.size h2)), h.2.step hf (fun k hk => .inr hk)⟩
theorem RB.nodup (h : RB W w b r m L) : L.flatten.Nodup := RXI.nodup h.1
theorem RB.keep {w' : World} (h : RB W w b r m L) (hf : Fr (fun _ => False) w w') : RB W w' b r m L := ⟨h.1.keep hf, alsoI h.2 hf⟩
theorem newB (n : Nat) (h0 : 1 ≤ n) (h1 : n ≤ 64) (W : World) : Calls Try.prog 10 #[.int .i64 n] W fun e w' => ∃ b r m, e = .returned (.pointer (some ⟨b, 0, none⟩)) ∧ RB W w' b r m (List.replicate n []) :=
  (newI_rx n h0 h1 W).mono fun e w' ⟨b, r, m, he, h, hf⟩ => ⟨b, r, m, he, h, hf⟩
theorem pushB (h : RB W w b r m L) (n x : Int) : Calls Try.prog 12 #[.pointer (some ⟨b, 0, none⟩), .int .i64 n, .int .i64 x] w fun e w' => e = .returned (.bool (may L n x)) ∧ RB W w' b r m (pushR L n x) :=
  (pushI_rx h.1 n x).mono fun e w' ⟨he, h', hf⟩ => ⟨he, h.step h' hf⟩
theorem frontB (h : RB W w b r m L) (n x : Int) : Calls Try.prog 20 #[.pointer (some ⟨b, 0, none⟩), .int .i64 n, .int .i64 x] w fun e w' => e = .returned (.bool (may L n x)) ∧ RB W w' b r m (frontR L n x) :=
  (frontI_rx h.1 n x).mono fun e w' ⟨he, h', hf⟩ => ⟨he, h.step h' hf⟩
theorem removeB (h : RB W w b r m L) (x : Int) : Calls Try.prog 17 #[.pointer (some ⟨b, 0, none⟩), .int .i64 x] w fun e w' => e = .returned (.bool (hasR L x)) ∧ RB W w' b r m (remL L x) :=
  (removeI_rx h.1 x).mono fun e w' ⟨he, h', hf⟩ => ⟨he, h.step h' hf⟩
theorem shiftB (h : RB W w b r m L) (n : Int) : Calls Try.prog 19 #[.pointer (some ⟨b, 0, none⟩), .int .i64 n] w fun e w' => ∃ x ok, e = .returned (.tuple #[x, .bool ok]) ∧ FirstIsI (rowAtI L n) x ok ∧ RB W w' b r m (shiftRI L n) :=
  (shiftI_rx h.1 n).mono fun e w' ⟨x, ok, he, hF, h', hf⟩ => ⟨x, ok, he, hF, h.step h' hf⟩
theorem turnB (h : RB W w b r m L) (n : Int) : Calls Try.prog 14 #[.pointer (some ⟨b, 0, none⟩), .int .i64 n] w fun e w' => e = .returned (.bool (!(rowAtI L n).isEmpty)) ∧ RB W w' b r m (turnRI L n) :=
  (turnI_rx h.1 n).mono fun e w' ⟨he, h', hf⟩ => ⟨he, h.step h' hf⟩
end
set_option maxRecDepth 100000 in
set_option maxHeartbeats 8000000 in
theorem full_walk (W : World) (n : Int) (hn0 : 0 ≤ n) (hn1 : n ≤ 18446744073709551615) :
    Calls Try.prog 5 #[.int .u64 n] W fun e w' => e = .returned (.bool true) ∧ Fr (fun _ => False) W w' := by
  have hnew : Calls Try.prog 10 #[.int .i64 4] W _ := newB 4 (by decide) (by decide) W
  go_enter Try.func5, Try.ntmps5
  go_wp2_with fail
  refine hnew.mono ?_
  clear hnew
  rintro e w1 ⟨b, r, m, rfl, h1⟩
  go_wp2_with fail
  go_loopw [4] (fun si wr => ∃ (i : Nat) (L : List (List Int)), i ≤ 4096 ∧ si = .int .i64 i ∧ RB W wr b r m L ∧ Hid (L.length = 4 ∧ (∀ x, x ∈ L.flatten ↔ 0 ≤ x ∧ x < (i : Int)) ∧ L.flatten.length = i)) (fun si _ => 4096 - (intOf si).toNat)
  case atStart => exact ⟨0, _, by omega, rfl, h1, Lib.hid ⟨rfl, fun x => by first | (simp; done) | (simp; omega), rfl⟩⟩
  case round =>
    obtain ⟨i, L, hi, rfl, hrx, HH⟩ := hrel
    by_cases hlt : i < 4096
    · obtain ⟨q1, q2, q3, q4⟩ := full_push i HH.out.1 hlt HH.out.2.1 HH.out.2.2
      have hp := pushB hrx ((i : Int) % 4) i
      rw [q1] at hp
      have HQ := Lib.hid (And.intro q2 (And.intro q3 q4))
      clear q1 q2 q3 q4
      go_wp2_with fail
      refine hp.mono ?_
      rintro e w3 ⟨rfl, h3⟩
      clear hp
      go_wp2
      go_roundw
      case rel => exact ⟨i + 1, _, by omega, by go_num, h3, HQ⟩
      case measure => simp [intOf]; omega
    · obtain rfl : i = 4096 := by omega
      obtain ⟨k, hk⟩ : ∃ k, n % 4096 = k := ⟨_, rfl⟩
      have hk0 : 0 ≤ k := by omega
      have hk1 : k < 4096 := by omega
      have hnd := hrx.nodup
      obtain ⟨m1, m2, m3, m4, m5, m6, m7⟩ := full_end k HH.out.1 hnd HH.out.2.1 HH.out.2.2 hk0 hk1
      have M3 := Lib.hid m3
      have M4 := Lib.hid m4
      have M5 := Lib.hid m5
      have M6 := Lib.hid m6
      have M7 := Lib.hid m7
      have M2 := Lib.hid m2
      have hp1 := pushB hrx 0 4096
      rw [m1, push_no m1] at hp1
      clear m1 m2 m3 m4 m5 m6 m7 hnd HH hi hlt h1 hrx
      go_wp2_with fail
      refine hp1.mono ?_
      rintro e w2 ⟨rfl, h2⟩
      clear hp1
      have hp2 := frontB h2 1 (-1)
      rw [M2.out, front_no M2.out] at hp2
      go_wp2_with fail
      refine hp2.mono ?_
      rintro e w3 ⟨rfl, h3⟩
      clear hp2
      have hp3 := pushB h3 2 k
      rw [M3.out] at hp3
      go_wp2_with fail
      refine hp3.mono ?_
      rintro e w4 ⟨rfl, h4⟩
      clear hp3
      have hp4 := removeB h4 k
      rw [M4.out] at hp4
      go_wp2_with fail
      refine hp4.mono ?_
      rintro e w5 ⟨rfl, h5⟩
      clear hp4
      have hp5 := pushB h5 3 9999
      rw [M5.out] at hp5
      go_wp2_with fail
      refine hp5.mono ?_
      rintro e w6 ⟨rfl, h6⟩
      clear hp5
      have hp6 := pushB h6 3 k
      rw [M6.out, push_no M6.out] at hp6
      go_wp2_with fail
      refine hp6.mono ?_
      rintro e w7 ⟨rfl, h7⟩
      clear hp6 h2 h3 h4 h5 h6
      have l0 := lenI_rx h7.1 0
      have l1 := lenI_rx h7.1 1
      have l2 := lenI_rx h7.1 2
      have l3 := lenI_rx h7.1 3
      have HF := Lib.hid h7.2
      have m7 := M7.out
      obtain ⟨a0, h0⟩ : ∃ a, (rowAtI (pushR (remL (pushR L 2 k) k) 3 9999) 0).length = a := ⟨_, rfl⟩
      obtain ⟨a1, h1⟩ : ∃ a, (rowAtI (pushR (remL (pushR L 2 k) k) 3 9999) 1).length = a := ⟨_, rfl⟩
      obtain ⟨a2, h2⟩ : ∃ a, (rowAtI (pushR (remL (pushR L 2 k) k) 3 9999) 2).length = a := ⟨_, rfl⟩
      obtain ⟨a3, h3⟩ : ∃ a, (rowAtI (pushR (remL (pushR L 2 k) k) 3 9999) 3).length = a := ⟨_, rfl⟩
      rw [h0] at l0 m7
      rw [h1] at l1 m7
      rw [h2] at l2 m7
      rw [h3] at l3 m7
      have hsum : (a0 : Int) + a1 + a2 + a3 = 4096 := by omega
      clear h0 h1 h2 h3 h7 M7
      go_wp2_with fail
      refine l0.mono ?_
      rintro e w8 ⟨rfl, rfl⟩
      clear l0
      go_wp2_with fail
      refine l1.mono ?_
      rintro e w8 ⟨rfl, rfl⟩
      clear l1
      go_wp2_with fail
      refine l2.mono ?_
      rintro e w8 ⟨rfl, rfl⟩
      clear l2
      go_wp2_with fail
      refine l3.mono ?_
      rintro e w8 ⟨rfl, rfl⟩
      clear l3
      go_wp2_with fail
      refine (lives_any _).mono ?_
      rintro e w9 ⟨rfl, hf9⟩
      go_wp2
      go_ret
      exact ⟨rfl, alsoI HF.out hf9⟩
end Go.Proofs.Ytfcpodlbombimaa
