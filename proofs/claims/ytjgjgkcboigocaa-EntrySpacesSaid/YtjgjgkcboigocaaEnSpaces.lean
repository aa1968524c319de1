/- EntrySpaces, walked. No conditions. -/
import Derived.Test.YtjgjgkcboigocaaEnLives
import Derived.Test.YtjgjgkcboigocaaEnInsert
import Derived.Test.YtjgjgkcboigocaaEnSpacesP
namespace Go.Proofs.Ytjgjgkcboigocaa
open Go.RowKit
set_option linter.unusedSimpArgs false
set_option linter.unusedVariables false
theorem wf_small {x : Int} (h0 : -1000000000000 ≤ x) (h1 : x ≤ 1000000000000) : (Lit.int .i64 x).wf = true := by
  have e1 : IntKind.i64.min = -9223372036854775808 := by decide
  have e2 : IntKind.i64.max = 9223372036854775807 := by decide
  simp [Lit.wf]; omega
theorem spaceE_wf {l : List Ent} {a n : Int} (h : SpaceOK l n a) : WfE (spaceE a n) := by
  have := h.a0; have := h.n1; have := h.n2; have := h.am
  exact ⟨wf_small (by show _ ≤ a; omega) (by show a ≤ _; omega), wf_small (by show _ ≤ a + n; omega) (by show a + n ≤ _; omega), wf_small (by simp [spaceE]) (by simp [spaceE]), wf_small (by simp [spaceE]) (by simp [spaceE]), wf_small (by simp [spaceE]) (by simp [spaceE]), wf_small (by simp [spaceE]) (by simp [spaceE]), wf_small (by simp [spaceE]) (by simp [spaceE]), wf_small (by simp [spaceE]) (by simp [spaceE])⟩
set_option maxRecDepth 100000 in
set_option maxHeartbeats 4000000 in
theorem spaces_walk (w : World) (A : Option Addr) (N C : Nat) (l : List Ent) (h : Rd w 10 (.slice A N C) (l.flatMap ent)) (hw : ∀ x ∈ l, WfE x) (hC : N ≤ C ∧ C ≤ maxLen) (p n : Int) :
    Calls Try.prog 7 #[.slice A N C, .int .i64 p, .int .i64 n] w fun e w' => e = .returned (.bool true) ∧ Fr (fun _ => False) w w' := by
  obtain ⟨rb, hrb⟩ : ∃ rb, rb = (decide (l.length ≤ 100) && rightB 0 l) := ⟨_, rfl⟩
  have hra := right_any h
  rw [← hrb] at hra
  have hN : N = l.length := h.elen
  have HN := Lib.hid hN
  have HW := Lib.hid hw
  have HC := Lib.hid hC
  clear hN hw hC
  go_enter Try.func7, Try.ntmps7
  go_wp2_with fail
  refine hra.mono ?_
  rintro e w1 ⟨rfl, hf1⟩
  cases rb with
  | false =>
    clear hra hrb
    go_wp2_with fail
    refine (lives_any _).mono ?_
    rintro e w7 ⟨rfl, hf7⟩
    go_wp2
    go_ret
    exact ⟨rfl, hf1.also hf7⟩
  | true =>
    have hrb' := hrb.symm
    simp only [Bool.and_eq_true, decide_eq_true_eq] at hrb'
    obtain ⟨hle, hr⟩ := hrb'
    have hN5 : N ≤ 100 := by rw [HN.out]; exact hle
    have h1 := h.of hf1 (fun _ h => h.elim)
    have HR := Lib.hid hr
    have HLE := Lib.hid hle
    clear hra hrb hr hle
    go_wp2_with fail
    refine (merge_any h1 (by have := HLE.out; omega) HR.out).mono ?_
    rintro e w2 ⟨v2, rfl, hs2, hf2, ho2⟩
    have hr2 := h1.of hf2 (fun _ h => h.elim)
    have hlm : (mergeL l).length ≤ 100 := by have := mergeL_len l; have := HLE.out; omega
    have hrm := rightB_merge HR.out
    have htw := mergeL_twice l
    obtain ⟨m, hm⟩ : ∃ m, m = mergeL l := ⟨_, rfl⟩
    rw [← hm] at hs2 hlm hrm htw
    obtain ⟨B, M, D, rfl⟩ := hs2.shape
    have hM : M = m.length := SE.elen hs2
    have HM := Lib.hid hM
    have HLM := Lib.hid hlm
    have HRM := Lib.hid hrm
    have HTW := Lib.hid htw
    clear hlm hrm htw hM hm h1 ho2
    go_wp2_with fail
    refine (merge_any (Sl.rd hs2) (by have := HLM.out; omega) HRM.out).mono ?_
    rw [HTW.out]
    rintro e w3 ⟨v3, rfl, hs3, hf3, ho3⟩
    obtain ⟨B3, M3, D3, rfl⟩ := hs3.shape
    obtain rfl : M3 = M := by have h1 : M3 = m.length := SE.elen hs3; rw [h1, HM.out]
    have hr3 := hr2.of hf3 (fun _ h => h.elim)
    have hf03 := (hf1.also hf2).also hf3
    clear hr2 hs2 hs3 ho3 hf1 hf2 hf3
    obtain ⟨a, ok, hsp⟩ : ∃ a ok, spaceF l p n = (a, ok) := ⟨_, _, rfl⟩
    have hsa := space_any hr3 (by have := HLE.out; omega) HR.out HC.out p n
    rw [hsp] at hsa
    have HSP := Lib.hid hsp
    clear hsp
    go_wp2_with fail
    refine hsa.mono ?_
    rintro e w4 ⟨rfl, hf4⟩
    have hf04 := hf03.also hf4
    clear hsa
    cases ok with
    | false =>
      obtain rfl := space_no HSP.out
      go_wp2_with fail
      refine (lives_any _).mono ?_
      rintro e w7 ⟨rfl, hf7⟩
      go_wp2
      go_ret
      exact ⟨rfl, hf04.also hf7⟩
    | true =>
    have hS := space_yes HSP.out HR.out
    have HS := Lib.hid hS
    obtain ⟨a0, n1, n2, am, -⟩ := hS
    by_cases h4 : 4096 < n
    · go_wp2_with fail
      refine (lives_any _).mono ?_
      rintro e w7 ⟨rfl, hf7⟩
      go_wp2
      go_ret
      exact ⟨rfl, hf04.also hf7⟩
    have hr4 := hr3.of hf4 (fun _ h => h.elim)
    have hin := insert_any hr4 (by have := HLE.out; omega) HR.out (spaceE a n) (spaceE_wf HS.out)
    rw [(spaceE_ins HS.out HR.out).1, (spaceE_ins HS.out HR.out).2] at hin
    have hrk : rightB 0 (insAt l (spaceE a n)) = true := right_ins (spaceE_good HS.out) HR.out a0 (spaceE_free HS.out HR.out)
    have hf1 := ins_found (l := l) (e := spaceE a n) (p := a) (Int.le_refl _) (by show a < a + n; omega)
    have hf2 := ins_found (l := l) (e := spaceE a n) (p := a + n - 1) (by show a ≤ a + n - 1; omega) (by show a + n - 1 < a + n; omega)
    have hlk := insAt_len l (spaceE a n)
    have hwk : ∀ x ∈ insAt l (spaceE a n), WfE x := fun x hx => by
      rcases insAt_mem hx with rfl | hx
      · exact spaceE_wf HS.out
      · exact HW.out x hx
    obtain ⟨k, hk⟩ : ∃ k, k = insAt l (spaceE a n) := ⟨_, rfl⟩
    rw [← hk] at hin hrk hf1 hf2 hlk hwk
    have HF1 := Lib.hid hf1
    have HF2 := Lib.hid hf2
    have HRK := Lib.hid hrk
    have HLK := Lib.hid hlk
    have HWK := Lib.hid hwk
    clear hk hrk hf1 hf2 hlk hwk hr3
    simp only [spaceE] at hin
    go_wp2_with fail
    refine hin.mono ?_
    rintro e w5 ⟨v5, rfl, hs5, hf5, ho5⟩
    obtain ⟨B5, M5, D5, rfl⟩ := hs5.shape
    have hM5 : M5 = k.length := SE.elen hs5
    have hM5N : (N : Int) + 1 = (M5 : Int) := by have := HLK.out; have := HN.out; omega
    have hM5b : M5 ≤ 101 := by omega
    have hkl : k.length ≤ 101 := by omega
    have HKL := Lib.hid hkl
    have hf05 := hf04.also hf5
    clear hin ho5 hr4 hM5 hkl
    have hfd1 := find_any (Sl.rd hs5) (by have := HKL.out; omega) (ends_of_right HRK.out) a
    rw [HF1.out.1] at hfd1
    go_wp2_with fail
    refine hfd1.mono ?_
    rintro e w6 ⟨rfl, hf6⟩
    have hs6 := Sl.fr hs5 hf6 (fun _ _ h => h)
    clear hs5 hfd1
    have hfd2 := find_any (Sl.rd hs6) (by have := HKL.out; omega) (ends_of_right HRK.out) (a + n - 1)
    rw [HF2.out.1] at hfd2
    go_wp2_with fail
    refine hfd2.mono ?_
    rintro e w7 ⟨rfl, hf7⟩
    have hs7 := Sl.fr hs6 hf7 (fun _ _ h => h)
    clear hs6 hfd2
    have her := eright_any (Sl.rd hs7) (by have := HKL.out; omega) HWK.out
    rw [HRK.out] at her
    go_wp2_with fail
    refine her.mono ?_
    rintro e w8 ⟨rfl, hf8⟩
    have hs8 := Sl.fr hs7 hf8 (fun _ _ h => h)
    clear hs7 her
    have hwh := whole_any (Sl.rd hs8) (by have := HKL.out; omega) HRK.out a (a + n)
    rw [show wholeR k a (a + n) = true from HF1.out.2] at hwh
    go_wp2_with fail
    refine hwh.mono ?_
    rintro e w9 ⟨rfl, hf9⟩
    clear hwh hs8
    go_wp2_with fail
    refine (lives_any _).mono ?_
    rintro e w10 ⟨rfl, hf10⟩
    go_wp2
    go_ret
    exact ⟨rfl, ((((hf05.also hf6).also hf7).also hf8).also hf9).also hf10⟩
end Go.Proofs.Ytjgjgkcboigocaa
