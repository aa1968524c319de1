/- anon.Pool: Sum. Conditions: bounds on lengths; references between 0 and 1000000. -/
import Derived.Test.YtalinhpdibdlkaaAnIds
import Derived.Test.YtalinhpdibdlkaaLow
namespace Go.Proofs.Ytalinhpdibdlkaa
open Go.RowKit
set_option linter.unusedSimpArgs false
set_option linter.unusedVariables false
/-- The references of some. -/
def sumR (l : List (Int × A3)) : List Int → Int
  | [] => 0
  | k :: ks => ((alGet l k).getD (0, 0, 0)).1 + sumR l ks
theorem sumR_append (l : List (Int × A3)) : ∀ a b : List Int, sumR l (a ++ b) = sumR l a + sumR l b
  | [], b => by simp [sumR]
  | k :: a, b => by simp only [List.cons_append, sumR]; rw [sumR_append l a b]; omega
theorem sumR_perm (l : List (Int × A3)) {a b : List Int} (h : a.Perm b) : sumR l a = sumR l b := by
  induction h with
  | nil => rfl
  | cons x _ ih => simp only [sumR]; rw [ih]
  | swap x y _ => simp only [sumR]; omega
  | trans _ _ i1 i2 => exact i1.trans i2
/-- References within the bounds. -/
def RefsOK (l : List (Int × A3)) : Prop := ∀ k a, alGet l k = some a → 0 ≤ a.1 ∧ a.1 ≤ 1000000
theorem sumR_bound {l : List (Int × A3)} (h : RefsOK l) : ∀ ks : List Int, 0 ≤ sumR l ks ∧ sumR l ks ≤ ks.length * 1000000
  | [] => by simp [sumR]
  | k :: ks => by
    have ih := sumR_bound h ks
    have h1 : 0 ≤ ((alGet l k).getD (0, 0, 0)).1 ∧ ((alGet l k).getD (0, 0, 0)).1 ≤ 1000000 := by
      cases hg : alGet l k with
      | none => simp
      | some a => exact h k a hg
    simp only [sumR, List.length_cons]
    omega
/-- All references. -/
def allR (l : List (Int × A3)) : Int := sumR l (l.map (·.1))
theorem ret_i64 {a b : Int} (h : a = b) : Ending.returned (.int .i64 a) = .returned (.int .i64 b) := by rw [h]
section
variable {Pr : Nat → Prop} {W1 w w1 : World} {b m : Nat} {most last : Int} {free : List Int} {l : List (Int × A3)}
set_option maxRecDepth 100000 in
set_option maxHeartbeats 2000000 in
theorem sum_any (h : PoolX Pr W1 w b m most last free l) (hk : Keys l) (hr : RefsOK l) :
    Calls Try.prog 14 #[.pointer (some ⟨b, 0, none⟩)] w fun e w' => e = .returned (.int .i64 (allR l)) ∧ Fr (fun _ => False) w w' := by
  obtain ⟨S, hS⟩ : ∃ S, allR l = S := ⟨_, rfl⟩
  rw [hS]
  have HS := Lib.hid hS
  have hids := ids_any h hk
  have hlen := idsOf_len l
  have hperm := idsOf_perm l
  have hfew := hk.few
  obtain ⟨ss, hss⟩ : ∃ ss, idsOf l = ss := ⟨_, rfl⟩
  rw [hss] at hids hlen hperm
  have HP := Lib.hid hperm
  have HL := Lib.hid hlen
  clear hS hss hperm hk hlen
  go_enter Try.func14, Try.ntmps14
  go_wp2_with fail
  refine hids.mono ?_
  rintro e w2 ⟨A, N, C, rfl, hsl, hown, hf⟩
  clear hids
  have h2 := h.keep hf
  obtain ⟨fv, hT, _⟩ := h2
  have c2 : w2.cell? ⟨b, 2, none⟩ = some (.map (some m)) := cell_of_ob hT.blk 2
  have hN : N = ss.length := by have := hsl.len; simp only [List.length_map, sliceLen] at this; omega
  have HN := Lib.hid hN
  have hN4 : N ≤ 4096 := by rw [hN, HL.out]; exact hfew
  clear hN
  go_wp2_with fail
  go_loop [3, 9] (fun sn si => ∃ t : Nat, t ≤ N ∧ si = .int .i64 t ∧ sn = .int .i64 (sumR l (ss.take t))) (fun _ si => N - (intOf si).toNat)
  case atStart => exact ⟨0, by omega, rfl, rfl⟩
  case round =>
    obtain ⟨t, ht, rfl, rfl⟩ := hrel
    have hb := sumR_bound hr (ss.take t)
    have hb2 : (ss.take t).length ≤ 4096 := by rw [List.length_take]; omega
    obtain ⟨q, hq⟩ : ∃ q, sumR l (ss.take t) = q := ⟨_, rfl⟩
    have HQ := Lib.hid hq
    rw [hq] at hb
    have hq0 : 0 ≤ q := hb.1
    have hq1 : q ≤ 4096000000 := by have := hb.2; omega
    simp only [hq]
    clear hb hb2 hq
    by_cases hlt : t < N
    · obtain ⟨k, hk⟩ : ∃ k, ss[t]? = some k := ⟨_, List.getElem?_eq_getElem (by have := HN.out; omega)⟩
      have hki : (ints ss)[t]? = some (.int .i64 k) := by rw [List.getElem?_map, hk]; rfl
      obtain ⟨g, off, n', cap', heq, hgl, hcs, -, -⟩ := hsl.form (by intro e; rw [e] at hki; cases hki)
      cases heq
      have c0 := hcs t _ hki
      have HK := Lib.hid hk
      obtain ⟨a, ha⟩ : ∃ a, (alGet l k).getD (0, 0, 0) = a := ⟨_, rfl⟩
      have ha2 : 0 ≤ a.1 ∧ a.1 ≤ 1000000 := by
        rw [← ha]
        cases hg : alGet l k with
        | none => simp
        | some a => exact hr k a hg
      obtain ⟨r, f, s⟩ := a
      have HA := Lib.hid ha
      dsimp only at ha2
      have ha20 := ha2.1
      have ha21 := ha2.2
      clear hk hki hcs ha ha2
      have hfd : ∀ w : World, (Instr.field 32 (.agg #[.int .i64 r, .int .i64 f, .int .i64 s]) 0).run Try.prog w = .ok (.int .i64 r) w := fun _ => by kernel_rfl
      go_wp2_with (at_lookup; go_must (refine wpList_look1 rfl _ _ _ rfl rfl k rfl key_ik Try.underlying60 (0, 0, 0) zeroA3 (hT.all.of rfl) (r, f, s) HA.out ?_; simp only [a3]))
      go_round
      case rel =>
        refine ⟨t + 1, by omega, by go_num, ?_⟩
        rw [List.take_add_one, HK.out]
        simp only [Option.toList_some, sumR_append, sumR, HA.out, HQ.out]
        go_num
      case measure => simp [intOf]; omega
    · obtain rfl : t = N := by omega
      go_wp2
      go_ret
      refine ⟨ret_i64 ?_, hf⟩
      have e1 : S = q := by
        rw [← HS.out, ← HQ.out, HN.out, List.take_length]
        exact (sumR_perm l HP.out).symm
      exact e1.symm
end
end Go.Proofs.Ytalinhpdibdlkaa
