/- ring.Rows[int]: Remove, enter, Push over the plain law of rows. No conditions. -/
import Derived.Test.YtfcpodlbombimaaRgCI
import Derived.Test.YtfcpodlbombimaaRingP
namespace Go.Proofs.Ytfcpodlbombimaa
open Go.RowKit
set_option linter.unusedSimpArgs false
set_option linter.unusedVariables false
/-- Rows in memory, in blocks of S. -/
def RXI (w : World) (S : Nat → Prop) (b r m : Nat) (L : List (List Int)) : Prop := ∃ vs W, RTI w b r m vs L W ∧ Good L W ∧ ∀ k, RSI b r m vs k → S k
section
variable {w w1 : World} {S S2 : Nat → Prop} {b r m : Nat} {L : List (List Int)}
theorem RXI.fr (h : RXI w S b r m L) (hf : Fr S2 w w1) (hn : ∀ k, S k → k < w.heap.size → ¬ S2 k) : RXI w1 S b r m L :=
  let ⟨vs, W, h1, h2, h3⟩ := h
  ⟨vs, W, h1.fr hf (fun k hk hs => hn k (h3 k hs) (h1.lt hs) hk), h2, h3⟩
theorem RXI.keep (h : RXI w S b r m L) (hf : Fr (fun _ => False) w w1) : RXI w1 S b r m L := h.fr hf (fun _ _ _ h => h)
theorem RXI.cut (h : RXI w S b r m L) : RXI w (fun k => S k ∧ k < w.heap.size) b r m L :=
  let ⟨vs, W, h1, h2, h3⟩ := h
  ⟨vs, W, h1, h2, fun k hk => ⟨h3 k hk, h1.lt hk⟩⟩
theorem RXI.wide (h : RXI w S b r m L) (hs : ∀ k, S k → S2 k) : RXI w S2 b r m L :=
  let ⟨vs, W, h1, h2, h3⟩ := h
  ⟨vs, W, h1, h2, fun k hk => hs k (h3 k hk)⟩
end
theorem newI_rx (n : Nat) (h0 : 1 ≤ n) (h1 : n ≤ 64) (w : World) :
    Calls Try.prog 10 #[.int .i64 n] w fun e w' => ∃ b r m, e = .returned (.pointer (some ⟨b, 0, none⟩)) ∧ RXI w' (fun k => w.heap.size ≤ k) b r m (List.replicate n []) ∧ Fr (fun _ => False) w w' :=
  (newI_any n h0 h1 w).mono fun e w' ⟨b, r, m, vs, he, h, hf, hs⟩ => ⟨b, r, m, he, ⟨vs, [], h, Good.nil n, hs⟩, hf⟩
theorem removeI_rt {w : World} {b r m : Nat} {vs : List Value} {L : List (List Int)} {W : List (Int × Int)} (h : RTI w b r m vs L W) (hg : Good L W) (x : Int) :
    Calls Try.prog 17 #[.pointer (some ⟨b, 0, none⟩), Value.int .i64 x] w fun e w' => ∃ vs2, e = .returned (.bool (hasR L x)) ∧ RTI w' b r m vs2 (remL L x) (alDel W x) ∧ Fr (RSI b r m vs) w w' ∧
      ∀ k, RSI b r m vs2 k → RSI b r m vs k ∨ w.heap.size ≤ k := by
  by_cases hx : x ∈ L.flatten
  · obtain ⟨j, l, hj, hl⟩ := mem_flat.1 hx
    have hlen := hg.row hj
    refine (removeI_in h x j (hg.get_in hj hl) l hj (by omega)).mono ?_
    rintro e w' ⟨v2, rfl, h2, hf, hs⟩
    rw [hg.rem_set hj hl] at h2
    exact ⟨_, by rw [hasR_true hx], h2, hf, hs⟩
  · refine (removeI_out h x (hg.get_none hx)).mono ?_
    rintro e w' ⟨rfl, hf⟩
    refine ⟨vs, by rw [hasR_false hx], ?_, hf.mono' (fun _ h => h.elim), fun k hk => .inl hk⟩
    rw [rem_id hx, hg.del_id hx]
    exact h.keep hf
theorem removeI_rx {w : World} {S : Nat → Prop} {b r m : Nat} {L : List (List Int)} (h : RXI w S b r m L) (x : Int) :
    Calls Try.prog 17 #[.pointer (some ⟨b, 0, none⟩), Value.int .i64 x] w fun e w' => e = .returned (.bool (hasR L x)) ∧ RXI w' (fun k => S k ∨ w.heap.size ≤ k) b r m (remL L x) ∧ Fr S w w' := by
  obtain ⟨vs, W, h1, h2, h3⟩ := h
  refine (removeI_rt h1 h2 x).mono ?_
  rintro e w' ⟨vs2, rfl, h4, hf, hs⟩
  exact ⟨rfl, ⟨vs2, _, h4, h2.rem x, fun k hk => (hs k hk).imp_left (h3 k)⟩, hf.mono' h3⟩
theorem whereI_rx {w : World} {S : Nat → Prop} {b r m : Nat} {L : List (List Int)} (h : RXI w S b r m L) (x : Int) :
    Calls Try.prog 23 #[.pointer (some ⟨b, 0, none⟩), Value.int .i64 x] w fun e w' => ∃ (j : Nat) (ok : Bool), e = .returned (.tuple #[.int .i64 j, .bool ok]) ∧ w' = w ∧ ((ok = true ∧ ∃ l, L[j]? = some l ∧ x ∈ l) ∨ (ok = false ∧ j = 0 ∧ x ∉ L.flatten)) := by
  obtain ⟨vs, W, h1, h2, h3⟩ := h
  refine (whereI_any h1 x).mono ?_
  rintro e w' ⟨rfl, rfl⟩
  by_cases hx : x ∈ L.flatten
  · obtain ⟨j, l, hj, hl⟩ := mem_flat.1 hx
    rw [h2.get_in hj hl]
    exact ⟨j, true, rfl, rfl, .inl ⟨rfl, l, hj, hl⟩⟩
  · rw [h2.get_none hx]
    exact ⟨0, false, rfl, rfl, .inr ⟨rfl, rfl, hx⟩⟩
theorem rowsI_rx {w : World} {S : Nat → Prop} {b r m : Nat} {L : List (List Int)} (h : RXI w S b r m L) :
    Calls Try.prog 34 #[.pointer (some ⟨b, 0, none⟩)] w fun e w' => e = .returned (.int .i64 L.length) ∧ w' = w := let ⟨vs, W, h1, _⟩ := h; rowsI_any h1
theorem lenI_rx {w : World} {S : Nat → Prop} {b r m : Nat} {L : List (List Int)} (h : RXI w S b r m L) (n : Int) :
    Calls Try.prog 18 #[.pointer (some ⟨b, 0, none⟩), .int .i64 n] w fun e w' => e = .returned (.int .i64 (rowAtI L n).length) ∧ w' = w := let ⟨vs, W, h1, _⟩ := h; lenI_any h1 n
set_option maxRecDepth 100000 in
theorem enterI_any {w : World} {b r m : Nat} {vs : List Value} {L : List (List Int)} {W : List (Int × Int)} (h : RTI w b r m vs L W) (hg : Good L W) (n : Int) (x : Int) :
    Calls Try.prog 40 #[.pointer (some ⟨b, 0, none⟩), .int .i64 n, Value.int .i64 x] w fun e w' => e = .returned (.bool (may L n x)) ∧ ((may L n x = false ∧ w' = w) ∨ (may L n x = true ∧ ∃ vs2, RTI w' b r m vs2 (remL L x) (alSet (alDel W x) x n) ∧ Fr (RSI b r m vs) w w' ∧
      ∀ k, RSI b r m vs2 k → RSI b r m vs k ∨ w.heap.size ≤ k)) := by
  have hrem := removeI_rt h hg x
  have hmost := hg.most
  have hlen := hg.len
  have c1 : w.cell? ⟨b, 1, none⟩ = some (.map (some m)) := cell_of_ob h.blk 1
  obtain ⟨q, hq⟩ : ∃ q, may L n x = q := ⟨_, rfl⟩
  rw [hq]
  by_cases hn : 0 ≤ n ∧ n < L.length
  · by_cases hx : x ∈ L.flatten
    · obtain ⟨j, l, hj, hl⟩ := mem_flat.1 hx
      have hget := hg.get_in hj hl
      obtain rfl : true = q := by rw [← hq]; simp [may, hn, hx]
      have his := isI_any h n
      rw [decide_eq_true hn] at his
      rw [hasR_true hx] at hrem
      clear hn hq hmost hlen hj
      go_enter Try.func40, Try.ntmps40
      go_wp2_with fail
      refine his.mono ?_
      rintro e w1 ⟨rfl, rfl⟩
      go_upto_region 6 with (at_lookup; go_must (refine wpList_look2 rfl _ _ _ rfl rfl x rfl keyokI Try.underlying51 (0 : Int) Try.zeroValue3 h.all (j : Int) true (by rw [hget]; rfl) (by rw [hget]; rfl) ?_; simp only [giI]))
      go_wp2_with fail
      refine hrem.mono ?_
      rintro e w2 ⟨vs2, rfl, h2, hf2, hs2⟩
      have d1 : w2.cell? ⟨b, 1, none⟩ = some (.map (some m)) := cell_of_ob h2.blk 1
      go_wp2_with (at_mapUpdate; go_must (refine wpList_upd rfl _ _ _ _ rfl rfl x rfl n rfl keyokI Try.underlying51 (h2.all.of rfl) ?_; intro o3 hm3))
      have hf3 : Fr (fun k => k = m) w2 (putOb w2 m o3) := (Fr.refl _ w2).putOb _ _ (.inl rfl)
      have h3 := h2.map hf3 hm3
      have hf4 : Fr (RSI b r m vs) w1 (putOb w2 m o3) := hf2.step hf3 (fun k hk => .inl (.inr (.inr (.inl hk))))
      go_ret
      exact ⟨rfl, .inr ⟨trivial, vs2, h3, hf4, hs2⟩⟩
    · have hget := hg.get_none hx
      have his := isI_any h n
      rw [decide_eq_true hn] at his
      rw [hasR_false hx] at hrem
      have hml := fun ty => run_maplen (P := Try.prog) (ty := ty) Try.underlying51 h.all
      have hW5 : W.length ≤ 4096 := by omega
      by_cases hroom : W.length < 4096
      · obtain rfl : true = q := by rw [← hq]; simp [may, hn, hx, ← hlen, hroom]
        clear hn hq hmost hlen
        go_enter Try.func40, Try.ntmps40
        go_wp2_with fail
        refine his.mono ?_
        rintro e w1 ⟨rfl, rfl⟩
        go_upto_region 6 with (at_lookup; go_must (refine wpList_look2 rfl _ _ _ rfl rfl x rfl keyokI Try.underlying51 (0 : Int) Try.zeroValue3 h.all (0 : Int) false (by rw [hget]; rfl) (by rw [hget]; rfl) ?_; simp only [giI]))
        go_wp2_with fail
        refine hrem.mono ?_
        rintro e w2 ⟨vs2, rfl, h2, hf2, hs2⟩
        have d1 : w2.cell? ⟨b, 1, none⟩ = some (.map (some m)) := cell_of_ob h2.blk 1
        go_wp2_with (at_mapUpdate; go_must (refine wpList_upd rfl _ _ _ _ rfl rfl x rfl n rfl keyokI Try.underlying51 (h2.all.of rfl) ?_; intro o3 hm3))
        have hf3 : Fr (fun k => k = m) w2 (putOb w2 m o3) := (Fr.refl _ w2).putOb _ _ (.inl rfl)
        have h3 := h2.map hf3 hm3
        have hf4 : Fr (RSI b r m vs) w1 (putOb w2 m o3) := hf2.step hf3 (fun k hk => .inl (.inr (.inr (.inl hk))))
        go_ret
        exact ⟨rfl, .inr ⟨trivial, vs2, h3, hf4, hs2⟩⟩
      · obtain rfl : false = q := by rw [← hq]; simp [may, hn, hx, ← hlen]; omega
        obtain ⟨N, hN⟩ : ∃ N, W.length = N := ⟨_, rfl⟩
        obtain rfl : N = 4096 := by omega
        rw [hN] at hml
        clear hn hq hmost hlen hroom hW5 hN
        go_enter Try.func40, Try.ntmps40
        go_wp2_with fail
        refine his.mono ?_
        rintro e w1 ⟨rfl, rfl⟩
        go_wp2_with (at_lookup; go_must (refine wpList_look2 rfl _ _ _ rfl rfl x rfl keyokI Try.underlying51 (0 : Int) Try.zeroValue3 h.all (0 : Int) false (by rw [hget]; rfl) (by rw [hget]; rfl) ?_; simp only [giI]))
        go_ret
        exact ⟨by trivial, .inl (by simp)⟩
  · have his := isI_any h n
    rw [decide_eq_false hn] at his
    obtain rfl : false = q := by
      rw [← hq]
      exact (may_false (fun ⟨h1, h2, _⟩ => hn ⟨h1, h2⟩)).symm
    clear hn hq hmost hlen
    go_enter Try.func40, Try.ntmps40
    go_wp2_with fail
    refine his.mono ?_
    rintro e w1 ⟨rfl, rfl⟩
    go_wp2
    go_ret
    exact ⟨by trivial, .inl (by simp)⟩
end Go.Proofs.Ytfcpodlbombimaa
