/- ring.Rows[int]: Push. No conditions. -/
import Derived.Test.YtfcpodlbombimaaRgDI
namespace Go.Proofs.Ytfcpodlbombimaa
open Go.RowKit
set_option linter.unusedSimpArgs false
set_option linter.unusedVariables false
theorem putL_atI {L : List (List Int)} {j : Nat} {l : List Int} (h : L[j]? = some l) (f : List Int → List Int) : putL L (j : Int) f = L.set j (f l) := by
  unfold putL; rw [Int.toNat_natCast, h]; rfl
set_option maxRecDepth 100000 in
set_option maxHeartbeats 2000000 in
theorem pushI_rx {w : World} {S : Nat → Prop} {b r m : Nat} {L : List (List Int)} (h0 : RXI w S b r m L) (n : Int) (x : Int) :
    Calls Try.prog 12 #[.pointer (some ⟨b, 0, none⟩), .int .i64 n, Value.int .i64 x] w fun e w' => e = .returned (.bool (may L n x)) ∧ RXI w' (fun k => S k ∨ w.heap.size ≤ k) b r m (pushR L n x) ∧ Fr S w w' := by
  have h0' := h0
  obtain ⟨vs, W, h, hg, hS⟩ := h0
  have hent := enterI_any h hg n x
  obtain ⟨q, hq⟩ : ∃ q, may L n x = q := ⟨_, rfl⟩
  rw [hq] at hent ⊢
  cases q with
  | false =>
    go_enter Try.func12, Try.ntmps12
    go_wp2_with fail
    refine hent.mono ?_
    rintro e w1 ⟨rfl, (⟨-, rfl⟩ | ⟨hf, -⟩)⟩
    · go_wp2
      go_ret
      refine ⟨rfl, ?_, Fr.refl _ _⟩
      unfold pushR; rw [if_neg (by rw [hq]; simp)]
      exact h0'.wide (fun k hk => .inl hk)
    · cases hf
  | true =>
    have hm2 : 0 ≤ n ∧ n < L.length ∧ (x ∈ L.flatten ∨ L.flatten.length < 4096) := by simpa [may] using hq
    obtain ⟨j, rfl⟩ : ∃ j : Nat, n = j := ⟨n.toNat, by omega⟩
    have hjL : j < (remL L x).length := by rw [rem_len]; omega
    have hroom : (remL L x).flatten.length < 4096 := by
      by_cases hx : x ∈ L.flatten
      · exact hg.rem_most hx
      · rw [rem_id hx]; exact hm2.2.2.resolve_left hx
    have hres : pushR L (j : Int) x = putL (remL L x) j (· ++ [x]) := by unfold pushR; rw [if_pos hq]
    rw [hres]
    have hgr := hg.rem x
    obtain ⟨i0, hi, hz, hsz, hby⟩ := infoofI zeroI
    clear hm2 hq hres h0'
    go_enter Try.func12, Try.ntmps12
    go_wp2_with fail
    refine hent.mono ?_
    rintro e w1 ⟨rfl, (⟨hf, -⟩ | ⟨-, vs2, h1, hf1, hs1⟩)⟩
    · cases hf
    clear hent
    obtain ⟨l, A, N, C, hl, hv, hs, hN, c0, -, c1, fz, hf⟩ := h1.at hjL
    rw [rem_len] at c0
    have hl5 := hgr.row hl
    have hLL := rem_len L x
    have hins := hgr.ins (rem_not L x) hroom hl (l' := l ++ [x]) (List.perm_append_comm.trans (by simp))
    have hbr : ¬ b = r := h1.br
    have hrb : ¬ r = b := fun e => hbr e.symm
    have hkv : ∃ ao n cap, Value.slice A N C = .slice ao n cap ∧ ∀ a, ao = some a → a.spot = none := by
      rcases id hs with ⟨h2, _⟩ | ⟨g, off, n, cap, row, h2, _⟩
      · cases h2; exact ⟨none, 0, 0, rfl, fun a ha => by cases ha⟩
      · cases h2; exact ⟨_, _, _, rfl, fun a ha => by cases ha; rfl⟩
    have hgq : ∀ g, (Value.slice A N C).ownBlock = some g → g ∉ [b, r] ∧ ∃ row e, ob w1 g = some (.cells row e (0, 0)) := fun g hg => by
      have h2 := h1.off j _ g hv hg
      refine ⟨by simp [h2], ?_⟩
      rcases id hs with ⟨h3, _⟩ | ⟨g', off, n', cap, row, h3, ho, _⟩
      · cases h3; cases hg
      · cases h3; cases hg; exact ⟨_, _, ho⟩
    have hbl := h1.blk
    have hrl := h1.rows
    have hjl : j < L.length := by omega
    have HN := Lib.hid hN
    clear hN hroom hl5 hjL
    have hN5 : N ≤ 4096 := by rw [HN.out]; exact hgr.row hl
    go_upto_region 3 with fail
    refine wp_region_canonS [b, r] (.slice A N C) [0, 1, 2, 4, 5, 6, 7, 9, 12, 3, 8, 10, 11] [13, 14, 15, 16] (by kernel_rfl) (by kernel_rfl) (by simp [hbl, hrl]) hkv hgq (fun K hK => ?_)
    simp only [List.map_cons, List.map_nil, List.getD_cons_succ, List.getD_cons_zero, List.cons_append, List.nil_append]
    go_wp2_with (at_builtin; go_must (
      refine wpList_app (v := .slice A N C) rfl _ _ _ rfl Try.underlying22 hi hz hsz hby rfl (by decide) rfl (hs.drew.alloc _) w1.heap.size 1 1 [Value.int .i64 x] rfl (by first | exact ob_new w1.drew _ | exact ob_newAt _ _ _ rfl) rfl (by simp [Value.oneCell']) (by decide) (by simp only [maxLen, sliceLen]; omega) (by simp only [sliceLen]; omega) ?_
      intro v2 w2 hs2 hf2 ho2 hl2
      obtain ⟨A2, N2, C2, rfl⟩ := hs2.shape
      have hfA : Fr (fun k => (Value.slice A N C).ownBlock = some k) w1 w2 := (((Fr.refl _ w1).alloc _).drew).step hf2 (fun k hk => .inl hk)
      have hr2 := hfA.keep (fun e => (h1.off j _ _ hv e).2 rfl) hrl
      have g1 : w2.cell? ⟨r, j, none⟩ = some (.slice A N C) := by rw [cell_of_ob hr2]; simpa using hv
      have gz : ∀ i, w2.frozen? ⟨r, i, none⟩ = false := fun i => frozen_of_ob hr2 i))
    refine hK _ _ (by kernel_rfl) (by simp [appIs, Act.eval]) (by simp [loadIn, Act.eval]) ?_
    clear hK K
    have hs3 : SKI w2 (.slice A2 N2 C2) (l ++ [x]) := by
      have e : kvsI l ++ [Value.int .i64 x] = kvsI (l ++ [x]) := by simp [kvsI, kvI]
      have h5 := hs2
      rw [e] at h5
      exact h5
    have hsw : (w1.alloc (.cells #[Value.int .i64 x] 3)).drew.heap.size = w1.heap.size + 1 := by simp
    obtain ⟨p1, p2, p3⟩ := h1.setrow hv hfA hs3 (fun k hk => by
      rcases ho2 with h4 | ⟨k2, h4, h5⟩
      · left; rw [← h4]; exact hk
      · rw [h4] at hk; cases hk; right; rw [hsw] at h5; omega)
    have hfin : Fr S w (w2.setCell ⟨r, j, none⟩ (.slice A2 N2 C2)) := (hf1.step p2 hs1).mono' hS
    have hsz := hf1.size
    have hS2 : ∀ k, RSI b r m (vs2.set j (.slice A2 N2 C2)) k → S k ∨ w.heap.size ≤ k := fun k hk => by
      rcases p3 k hk with h4 | h4
      · exact (hs1 k h4).imp_left (hS k)
      · right; omega
    have hrx : RXI (w2.setCell ⟨r, j, none⟩ (.slice A2 N2 C2)) (fun k => S k ∨ w.heap.size ≤ k) b r m (putL (remL L x) j (· ++ [x])) := by
      rw [putL_atI hl]
      exact ⟨_, _, p1, hins, hS2⟩
    have HR := Lib.hid hrx
    have HF := Lib.hid hfin
    clear hrx hfin p1 p2 p3 hS2 hs2 hs3 hf2 hfA ho2 hsw hkv hgq hbl hrl
    go_wp2
    go_ret
    exact ⟨rfl, HR.out, HF.out⟩
end Go.Proofs.Ytfcpodlbombimaa
