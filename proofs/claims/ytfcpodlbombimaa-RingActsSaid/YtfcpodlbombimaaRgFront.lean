/- ring.Rows[int]: Front. No conditions. -/
import Derived.Test.YtfcpodlbombimaaRgIns
namespace Go.Proofs.Ytfcpodlbombimaa
open Go.RowKit
set_option linter.unusedSimpArgs false
set_option linter.unusedVariables false
set_option maxRecDepth 100000 in
set_option maxHeartbeats 8000000 in
theorem frontI_rx {w : World} {S : Nat → Prop} {b r m : Nat} {L : List (List Int)} (h0 : RXI w S b r m L) (n : Int) (x : Int) :
    Calls Try.prog 20 #[.pointer (some ⟨b, 0, none⟩), .int .i64 n, .int .i64 x] w fun e w' => e = .returned (.bool (may L n x)) ∧ RXI w' (fun k => S k ∨ w.heap.size ≤ k) b r m (frontR L n x) ∧ Fr S w w' := by
  have h0' := h0
  obtain ⟨vs, W, h, hg, hS⟩ := h0
  have hent := enterI_any h hg n x
  obtain ⟨q, hq⟩ : ∃ q, may L n x = q := ⟨_, rfl⟩
  rw [hq] at hent ⊢
  cases q with
  | false =>
    go_enter Try.func20, Try.ntmps20
    go_wp2_with fail
    refine hent.mono ?_
    rintro e w1 ⟨rfl, (⟨-, rfl⟩ | ⟨hf, -⟩)⟩
    · go_wp2
      go_ret
      refine ⟨rfl, ?_, Fr.refl _ _⟩
      unfold frontR; rw [if_neg (by rw [hq]; simp)]
      exact h0'.wide (fun k hk => .inl hk)
    · cases hf
  | true =>
    have hm2 : 0 ≤ n ∧ n < L.length ∧ (x ∈ L.flatten ∨ L.flatten.length < 4096) := by simpa [may] using hq
    obtain ⟨j, rfl⟩ : ∃ j : Nat, n = j := ⟨n.toNat, by omega⟩
    have hjL : j < (remL L x).length := by rw [rem_len]; omega
    have hroom : (remL L x).flatten.length < 4096 := by
      by_cases hx : x ∈ L.flatten
      · exact hg.rem_most hx
      · rw [rem_id hx]; exact hm2.2.2.resolve_left hx
    have hres : frontR L (j : Int) x = putL (remL L x) j (x :: ·) := by unfold frontR; rw [if_pos hq]
    rw [hres]
    have hgr := hg.rem x
    clear hm2 hq hres h0'
    go_enter Try.func20, Try.ntmps20
    go_wp2_with fail
    refine hent.mono ?_
    rintro e w1 ⟨rfl, (⟨hf, -⟩ | ⟨-, vs2, h1, hf1, hs1⟩)⟩
    · cases hf
    clear hent
    obtain ⟨l, A, N, C, hl, hv, hs, hN, c0, -, c1, fz, hf⟩ := h1.at hjL
    rw [rem_len] at c0
    have hl5 := hgr.row hl
    have hLL := rem_len L x
    have hins := hgr.ins (rem_not L x) hroom hl (l' := x :: l) (List.Perm.refl _)
    have hbr : ¬ b = r := h1.br
    have hrb : ¬ r = b := fun e => hbr e.symm
    have hjl : j < L.length := by omega
    have hrl := h1.rows
    have hbl := h1.blk
    have hvw : ∀ k, (Value.slice A N C).ownBlock = some k → k < w1.heap.size := fun k hk => Sl.lt hs hk
    have hcall : Calls Try.prog 46 #[.slice A N C, .int .i64 0, .slice (some ⟨w1.heap.size, 0, none⟩) 1 1] (w1.drew.alloc (.cells #[.int .i64 x] 3)) fun e w' => InsI (w1.drew.alloc (.cells #[.int .i64 x] 3)) (.slice A N C) (x :: l) e w' := by
      have := insI_any (w := w1.drew.alloc (.cells #[.int .i64 x] 3)) (v := .slice A N C) (l := l) (hs.drew.alloc _) (by omega) w1.heap.size x (ob_newAt _ _ _ rfl) (fun k hk e => by have := hvw k hk; omega) 0 (by omega)
      simpa using this
    have HC := Lib.hid hcall
    clear hN hroom hl5 hjL hcall
    have hbw := ob_lt hbl
    have hrw := ob_lt hrl
    go_upto_region 3 with fail
    clear hbl hrl
    go_region_with (first | (go_at_call 46; refine HC.out.mono ?_; rintro e w2 ⟨v2, rfl, hs2, hf2, ho2⟩; obtain ⟨A2, N2, C2, rfl⟩ := hs2.shape; have hfA : Fr (fun k => (Value.slice A N C).ownBlock = some k) w1 w2 := (((Fr.refl _ w1).drew).alloc _).step hf2 (fun k hk => .inl hk); have hb2 := hfA.keep (fun e => (h1.off j _ _ hv e).1 rfl) h1.blk; have hr2 := hfA.keep (fun e => (h1.off j _ _ hv e).2 rfl) h1.rows; have g0 : w2.cell? ⟨b, 0, none⟩ = some (.slice (some ⟨r, 0, none⟩) L.length L.length) := (by rw [cell_of_ob hb2, rem_len]; rfl); have g1 : w2.cell? ⟨r, j, none⟩ = some (.slice A N C) := (by rw [cell_of_ob hr2]; simpa using hv); have gz : ∀ i, w2.frozen? ⟨r, i, none⟩ = false := fun i => frozen_of_ob hr2 i))
    all_goals (
      have hs3 : SKI w2 (.slice A2 N2 C2) (x :: l) := hs2
      obtain ⟨p1, p2, p3⟩ := h1.setrow hv hfA hs3 (fun k hk => by
        rcases ho2 k hk with h4 | h4
        · exact .inl h4
        · right; simp at h4; omega)
      have hfin : Fr S w (w2.setCell ⟨r, j, none⟩ (.slice A2 N2 C2)) := (hf1.step p2 hs1).mono' hS
      have hsz := hf1.size
      have hS2 : ∀ k, RSI b r m (vs2.set j (.slice A2 N2 C2)) k → S k ∨ w.heap.size ≤ k := fun k hk => by
        rcases p3 k hk with h4 | h4
        · exact (hs1 k h4).imp_left (hS k)
        · right; omega
      have hrx : RXI (w2.setCell ⟨r, j, none⟩ (.slice A2 N2 C2)) (fun k => S k ∨ w.heap.size ≤ k) b r m (putL (remL L x) j (x :: ·)) := by
        rw [putL_atI hl]
        exact ⟨_, _, p1, hins, hS2⟩
      have HR := Lib.hid hrx
      have HF := Lib.hid hfin
      clear hrx hfin p1 p2 p3 hS2 hs2 hs3 hf2 hfA ho2 g0 g1 gz hb2 hr2 HC
      go_wp2
      go_ret
      exact ⟨rfl, HR.out, HF.out⟩)
end Go.Proofs.Ytfcpodlbombimaa
