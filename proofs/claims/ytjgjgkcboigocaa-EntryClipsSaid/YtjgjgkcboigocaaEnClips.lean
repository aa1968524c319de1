/- EntryClips, walked. No conditions. -/
import Derived.Test.YtjgjgkcboigocaaEnLives
import Derived.Test.YtjgjgkcboigocaaEnClipsP
namespace Go.Proofs.Ytjgjgkcboigocaa
open Go.RowKit
set_option linter.unusedSimpArgs false
set_option linter.unusedVariables false
set_option maxRecDepth 100000 in
set_option maxHeartbeats 4000000 in
theorem clips_walk (w : World) (A : Option Addr) (N C : Nat) (l : List Ent) (h : Rd w 10 (.slice A N C) (l.flatMap ent)) (a b : Int) :
    Calls Try.prog 3 #[.slice A N C, .int .i64 a, .int .i64 b] w fun e w' => e = .returned (.bool true) ∧ Fr (fun _ => False) w w' := by
  have hN : N = l.length := h.elen
  obtain ⟨rb, hrb⟩ : ∃ rb, rb = (decide (l.length ≤ 100) && rightB 0 l) := ⟨_, rfl⟩
  have hra := right_any h
  rw [← hrb] at hra
  have HN := Lib.hid hN
  clear hN
  go_enter Try.func3, Try.ntmps3
  go_wp2_with fail
  refine hra.mono ?_
  rintro e w1 ⟨rfl, hf1⟩
  cases rb with
  | false =>
    clear hra hrb
    go_wp2_with fail
    refine (lives_any _).mono ?_
    rintro e w7 ⟨rfl, hf7⟩
    go_wp2
    go_ret
    exact ⟨rfl, hf1.also hf7⟩
  | true =>
    have hrb' := hrb.symm
    simp only [Bool.and_eq_true, decide_eq_true_eq] at hrb'
    obtain ⟨hle, hr⟩ := hrb'
    have hN5 : N ≤ 100 := by rw [HN.out]; exact hle
    have h1 := h.of hf1 (fun _ h => h.elim)
    have HR := Lib.hid hr
    have HLE := Lib.hid hle
    have hra1 := rightB_clip a hr
    have hrb1 := rightB_clip b hr
    have hla := clipL_len a hr
    have hlb := clipL_len b hr
    obtain ⟨ma, hma⟩ : ∃ ma, ma = clipL l a := ⟨_, rfl⟩
    rw [← hma] at hra1 hla
    have hnone : ∀ y ∈ ma, ¬ (y.s < a ∧ a < y.e) := by rw [hma]; exact fun y hy => clipL_none hy
    have hid := clipL_id hnone
    have hcomm : clipL ma b = clipL (clipL l b) a := by rw [hma]; exact clipL_comm a b l
    have HMA := Lib.hid hma
    have HRA := Lib.hid hra1
    have HRB := Lib.hid hrb1
    have HLA := Lib.hid hla
    have HLB := Lib.hid hlb
    have HNO := Lib.hid hnone
    have HID := Lib.hid hid
    have HCO := Lib.hid hcomm
    clear hra hrb hr hle hma hra1 hrb1 hla hlb hnone hid hcomm
    go_wp2_with fail
    refine (clip_any h1 (by have := HLE.out; omega) HR.out a).mono ?_
    rw [← HMA.out]
    rintro e w2 ⟨v2, rfl, hs2, hf2, ho2⟩
    obtain ⟨B, M, D, rfl⟩ := hs2.shape
    have hM : M = ma.length := SE.elen hs2
    have hM5 : M ≤ 101 := by have := HLA.out; have := HLE.out; omega
    have HM := Lib.hid hM
    clear hM
    go_wp2_with fail
    go_loopw [19] (fun v wr => ∃ i : Nat, i ≤ M ∧ v = .int .i64 i ∧ Fr (fun _ => False) w2 wr) (fun v _ => M - (intOf v).toNat)
    case atStart => exact ⟨0, by omega, rfl, Fr.refl _ _⟩
    case round =>
      obtain ⟨i, hi, rfl, hf⟩ := hrel
      by_cases hlt : i < M
      · obtain ⟨x, hx⟩ : ∃ x, ma[i]? = some x := ⟨_, List.getElem?_eq_getElem (by have := HM.out; omega)⟩
        obtain ⟨g, off, n', cap', heq, hgl, -, -, c0, c1, c2, c3, c4, c5, c6, c7, c8, c9⟩ := SE.entry (hs2.fr hf (fun _ _ h => h)) hx
        cases heq
        have hxn := HNO.out x (List.mem_of_getElem? hx)
        clear hx
        by_cases hsa : x.s < a
        · have hae : ¬ a < x.e := fun h => hxn ⟨hsa, h⟩
          clear hxn
          go_wp2
          go_roundw
          case rel => exact ⟨i + 1, by omega, by go_num, hf.alloc _⟩
          case measure => simp [intOf]; omega
        · clear hxn
          go_wp2
          go_roundw
          case rel => exact ⟨i + 1, by omega, by go_num, hf.alloc _⟩
          case measure => simp [intOf]; omega
      · obtain rfl : i = M := by omega
        have hs3 := hs2.fr hf (fun _ _ h => h)
        have hf13 := ((hf1.also hf2).also hf)
        have h3 := h.of hf13 (fun _ h => h.elim)
        clear hs2 hlt
        have hla4 : ma.length ≤ 500 := by have := HLA.out; have := HLE.out; omega
        have hlb4 : (clipL l b).length ≤ 500 := by have := HLB.out; have := HLE.out; omega
        have hc1 : (i : Int) - (N : Int) ≤ 1 := by have := HLA.out; have := HM.out; have := HN.out; omega
        have hc2 : (N : Int) ≤ (i : Int) := by have := HLA.out; have := HM.out; have := HN.out; omega
        have HLA4 := Lib.hid hla4
        have HLB4 := Lib.hid hlb4
        clear hla4 hlb4
        go_wp2_with fail
        refine (clip_any (Sl.rd hs3) HLA4.out HRA.out a).mono ?_
        rw [HID.out]
        rintro e w4 ⟨v4, rfl, hs4, hf4, ho4⟩
        obtain ⟨B4, M4, D4, rfl⟩ := hs4.shape
        have hs3 := hs3.fr hf4 (fun _ _ h => h)
        go_wp2_with fail
        refine (same_any (Sl.rd hs4) (Sl.rd hs3) (by have := HLA4.out; omega) (by have := HLA4.out; omega)).mono ?_
        rw [show decide (ma = ma) = true from decide_eq_true rfl]
        rintro e w5 ⟨rfl, hf5⟩
        have hs3 := hs3.fr hf5 (fun _ _ h => h)
        have h5 := h3.of (hf4.also hf5) (fun _ h => h.elim)
        go_wp2_with fail
        refine (clip_any (Sl.rd hs3) HLA4.out HRA.out b).mono ?_
        rintro e w6 ⟨v6, rfl, hs6, hf6, ho6⟩
        obtain ⟨B6, M6, D6, rfl⟩ := hs6.shape
        go_wp2_with fail
        refine (clip_any (h5.of hf6 (fun _ h => h.elim)) (by have := HLE.out; omega) HR.out b).mono ?_
        rintro e w7 ⟨v7, rfl, hs7, hf7, ho7⟩
        obtain ⟨B7, M7, D7, rfl⟩ := hs7.shape
        go_wp2_with fail
        refine (clip_any (Sl.rd hs7) HLB4.out HRB.out a).mono ?_
        rintro e w8 ⟨v8, rfl, hs8, hf8, ho8⟩
        obtain ⟨B8, M8, D8, rfl⟩ := hs8.shape
        have hs6 := (hs6.fr hf7 (fun _ _ h => h)).fr hf8 (fun _ _ h => h)
        rw [HCO.out] at hs6
        have hl8 : (clipL (clipL l b) a).length ≤ 1000 := by have := (clipL_len a HRB.out).2; have := HLB4.out; omega
        have HL8 := Lib.hid hl8
        clear hl8
        go_wp2_with fail
        refine (same_any (Sl.rd hs6) (Sl.rd hs8) HL8.out HL8.out).mono ?_
        rw [show decide (clipL (clipL l b) a = clipL (clipL l b) a) = true from decide_eq_true rfl]
        rintro e w9 ⟨rfl, hf9⟩
        go_wp2_with fail
        refine (lives_any _).mono ?_
        rintro e w10 ⟨rfl, hf10⟩
        go_wp2
        go_ret
        exact ⟨rfl, ((((((hf13.also hf4).also hf5).also hf6).also hf7).also hf8).also hf9).also hf10⟩
end Go.Proofs.Ytjgjgkcboigocaa
