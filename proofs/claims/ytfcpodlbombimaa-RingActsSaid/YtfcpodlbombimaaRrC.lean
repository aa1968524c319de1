/- pantryref02.Rows: Front, Shift, Turn; both rings side by side. Conditions: the plain law of rows. -/
import Derived.Test.YtfcpodlbombimaaRrB
import Derived.Test.YtfcpodlbombimaaRgHI
import Derived.Test.YtfcpodlbombimaaRgFront
namespace Go.Proofs.Ytfcpodlbombimaa
open Go.RowKit
set_option linter.unusedSimpArgs false
set_option linter.unusedVariables false
section
variable {w : World} {b r : Nat} {S : Nat → Prop} {L : List (List Int)}
set_option maxRecDepth 100000 in
set_option maxHeartbeats 2000000 in
theorem rfront_any (h0 : RRX b r L w S) (hg : ∃ Wm, Good L Wm) (n x : Int) :
    Calls Try.prog 26 #[.pointer (some ⟨b, 0, none⟩), .int .i64 n, .int .i64 x] w fun e w' => e = .returned (.bool (may L n x)) ∧ RRX b r (frontR L n x) w' (fun k => S k ∨ w.heap.size ≤ k) ∧ Fr S w w' := by
  have h0' := h0
  obtain ⟨vs, h, hS⟩ := h0
  have hmost : L.flatten.length ≤ 4096 := let ⟨Wm, hg⟩ := hg; hg.most
  have hmc := rmay_any h hmost n x
  cases hq : may L n x with
  | false =>
    rw [hq] at hmc
    have hres : frontR L n x = L := by unfold frontR; rw [hq]; rfl
    rw [hres]
    clear hq hres
    go_enter Try.func26, Try.ntmps26
    go_wp2_with fail
    refine hmc.mono ?_
    rintro e w1 ⟨rfl, rfl⟩
    go_wp2
    go_ret
    exact ⟨rfl, RRX.steady.wide h0' (fun k hk => .inl hk), Fr.refl _ _⟩
  | true =>
    rw [hq] at hmc
    obtain ⟨j, l, rfl, hl, hjr, hl4, hput⟩ := may_split hg hq
    have hres : frontR L j x = (remL L x).set j (x :: l) := by unfold frontR; rw [if_pos hq, hput]
    rw [hres]
    have hrm := rremove_any h0' hg x
    clear hq hres hput
    go_enter Try.func26, Try.ntmps26
    go_wp2_with fail
    refine hmc.mono ?_
    rintro e w1 ⟨rfl, rfl⟩
    clear hmc
    go_wp2_with fail
    refine hrm.mono ?_
    rintro e w2 ⟨rfl, ⟨vs2, h2, hS2⟩, hf2⟩
    clear hrm h h0'
    obtain ⟨l', A, N, C, hl', hv, hs, hN, c0, c1, fz, hf⟩ := h2.at hjr
    obtain rfl : l = l' := by rw [hl] at hl'; cases hl'; rfl
    have hN5 : N ≤ 4096 := by omega
    obtain ⟨i0, hi, hz, hsz, hby⟩ := infoofI zeroI
    have g0 := ob_lt h2.blk
    have g1 := ob_lt h2.rows
    clear hl' hN hv hl
    have hjL : j < (remL L x).length := hjr
    have f1 := fz j
    clear fz
    have hbl := h2.blk
    have hrl := h2.rows
    have hFr : ∀ q ∈ [b, r], q < w2.heap.size := by simp; exact ⟨g0, g1⟩
    have gb1 : b < w2.heap.size + 1 := by omega
    have gr1 : r < w2.heap.size + 1 := by omega
    go_upto_region 4 with fail
    refine wp_region_canonT [b, r] [0, 1, 2, 3, 4, 5, 7, 8, 9, 10, 11, 12, 13] [[6, 14, 15, 16]] (by kernel_rfl) (by simp) (by kernel_rfl) (by simp [hbl, hrl]) (fun K hK => ?_)
    intro o ho
    simp only [List.mem_cons, List.not_mem_nil, or_false] at ho
    subst ho
    simp only [List.map_cons, List.map_nil, List.getD_cons_succ, List.getD_cons_zero, List.cons_append, List.nil_append]
    go_wp2_with (at_builtin; go_must (
      refine wpList_appsrc (v := .slice (some ⟨_, 0, none⟩) 1 1) (y := .slice A N C) rfl (.tmp 21) (.tmp 28) 22 rfl Try.underlying22 hi hz hsz hby rfl (by decide) rfl (Sl.builtAt _ [.int .i64 x] 1 _ (by simp) rfl (by decide)) rfl (hs.drew.alloc _) (one_kvs l) (by simp only [sliceLen, maxLen]; omega) (by simp only [sliceLen]; omega) ?_
      intro v4 w4 hs4 hf4 ho4 hl4
      obtain ⟨A4, N4, C4, rfl⟩ := hs4.shape
      have hfB : Fr (fun _ => False) w2 w4 := Fr.step ((Fr.refl _ w2).drew.alloc _) hf4 (fun k hk => by cases hk; right; simp)
      have ho4' : ∀ k, (Value.slice A4 N4 C4).ownBlock = some k → w2.heap.size ≤ k := fun k hk => by
        rcases ho4 with h | ⟨q, h, hq⟩
        · rw [h] at hk; cases hk; simp
        · rw [h] at hk; cases hk; simp at hq; omega
      have e4 := (hfB.cell (a := ⟨r, j, none⟩) (by simp) g1).trans c1
      have f4 := frozen_of_ob (h2.keep hfB).rows j))
    refine hK _ _ (by kernel_rfl) (by simp [appF, Act.eval, FreshS.of_block, hFr]) (by simp [loadIn, Act.eval]) ?_
    clear hK K
    obtain ⟨p1, p2, p3⟩ := h2.setrow hjr hfB (l2 := x :: l) (by
      have e : [Value.int .i64 x] ++ kvsI l = kvsI (x :: l) := by simp [kvsI, kvI]
      rw [e] at hs4; exact hs4) ho4'
    have HR := Lib.hid (show RRX b r ((remL L x).set j (x :: l)) (w4.setCell ⟨r, j, none⟩ (.slice A4 N4 C4)) (fun k => S k ∨ w1.heap.size ≤ k) from ⟨_, p1, fun k hk => (p3 k hk).elim (hS2 k) (fun h => by have := hf2.size; right; omega)⟩)
    have HF := Lib.hid ((hf2.step p2 (fun k hk => by rw [hk]; exact hS2 r (.inr (.inl rfl))) : Fr S w1 (w4.setCell ⟨r, j, none⟩ (.slice A4 N4 C4))))
    clear p1 p2 p3
    go_wp2
    go_ret
    exact ⟨rfl, HR.out, HF.out⟩
theorem Good.flat5 (hg : ∃ Wm, Good L Wm) : L.flatten.length ≤ 5000 := let ⟨Wm, hg⟩ := hg; by have := hg.most; omega
theorem rfirst_rx (h : RRX b r L w S) (hg : ∃ Wm, Good L Wm) (n : Int) : Calls Try.prog 32 #[.pointer (some ⟨b, 0, none⟩), .int .i64 n] w fun e w' => ∃ x ok, e = .returned (.tuple #[x, .bool ok]) ∧ FirstIsI (rowAtI L n) x ok ∧ w' = w :=
  let ⟨vs, h, _⟩ := h
  rfirst_any h (Good.flat5 hg) n
theorem rshift_any (h : RRX b r L w S) (hg : ∃ Wm, Good L Wm) (n : Int) :
    Calls Try.prog 27 #[.pointer (some ⟨b, 0, none⟩), .int .i64 n] w fun e w' => ∃ x ok, e = .returned (.tuple #[x, .bool ok]) ∧ FirstIsI (rowAtI L n) x ok ∧ RRX b r (shiftRI L n) w' (fun k => S k ∨ w.heap.size ≤ k) ∧ Fr S w w' := by
  have hfi := rfirst_rx h hg n
  go_enter Try.func27, Try.ntmps27
  go_wp2_with fail
  refine hfi.mono ?_
  rintro e w1 ⟨x, ok, rfl, hF, rfl⟩
  rcases id hF with ⟨rfl, y, t, hr, rfl⟩ | ⟨rfl, hr, rfl⟩
  · have hres : shiftRI L n = remL L y := by unfold shiftRI; rw [hr]
    have HRES := Lib.hid hres
    go_wp2_with fail
    refine (rremove_any h hg y).mono ?_
    rintro e w2 ⟨rfl, h2, hf2⟩
    clear hF hres
    go_wp2
    go_ret2
    exact ⟨_, _, rfl, .inl ⟨rfl, y, t, hr, rfl⟩, by rw [HRES.out]; exact h2, hf2⟩
  · have hres : shiftRI L n = L := by unfold shiftRI; rw [hr]
    have HRES := Lib.hid hres
    clear hres
    go_wp2
    go_ret2
    exact ⟨_, _, rfl, hF, by rw [HRES.out]; exact RRX.steady.wide h (fun k hk => .inl hk), Fr.refl _ _⟩
theorem rturn_any (h : RRX b r L w S) (hg : ∃ Wm, Good L Wm) (n : Int) :
    Calls Try.prog 29 #[.pointer (some ⟨b, 0, none⟩), .int .i64 n] w fun e w' => e = .returned (.bool (!(rowAtI L n).isEmpty)) ∧ RRX b r (turnRI L n) w' (fun k => S k ∨ w.heap.size ≤ k) ∧ Fr S w w' := by
  have hfi := rfirst_rx h hg n
  obtain ⟨q, hq⟩ : ∃ q, (!(rowAtI L n).isEmpty) = q := ⟨_, rfl⟩
  rw [hq]
  go_enter Try.func29, Try.ntmps29
  go_wp2_with fail
  refine hfi.mono ?_
  rintro e w1 ⟨x, ok, rfl, hF, rfl⟩
  rcases id hF with ⟨rfl, y, t, hr, rfl⟩ | ⟨rfl, hr, rfl⟩
  · have hres : turnRI L n = pushR L n y := by unfold turnRI; rw [hr]
    have hmay : may L n y = true := by
      have hn : 0 ≤ n ∧ n < L.length := by
        by_cases hn : 0 ≤ n ∧ n < L.length
        · exact hn
        · rw [rowAtI_out hn] at hr; cases hr
      obtain ⟨j, rfl⟩ : ∃ j : Nat, n = j := ⟨n.toNat, by omega⟩
      obtain ⟨l, hl⟩ : ∃ l, L[j]? = some l := ⟨_, List.getElem?_eq_getElem (by omega)⟩
      rw [rowAtI_in hl] at hr
      exact decide_eq_true ⟨hn.1, hn.2, .inl (mem_flat.2 ⟨j, l, hl, by rw [hr]; exact List.mem_cons_self ..⟩)⟩
    obtain rfl : true = q := by rw [← hq, hr]; rfl
    have HRES := Lib.hid hres
    have hp := rpush_any h hg n y
    rw [hmay] at hp
    clear hq
    go_wp2_with fail
    refine hp.mono ?_
    rintro e w2 ⟨rfl, h2, hf2⟩
    clear hF hres hp hmay
    go_wp2
    go_ret
    exact ⟨rfl, by rw [HRES.out]; exact h2, hf2⟩
  · have hres : turnRI L n = L := by unfold turnRI; rw [hr]
    obtain rfl : false = q := by rw [← hq, hr]; rfl
    have HRES := Lib.hid hres
    clear hres hq
    go_wp2
    go_ret
    exact ⟨rfl, by rw [HRES.out]; exact RRX.steady.wide h (fun k hk => .inl hk), Fr.refl _ _⟩
end
/-! ### Both side by side -/
def RXT (b r m : Nat) (L : List (List Int)) : Thing := fun w S => RXI w S b r m L
theorem RXT.steady (b r m : Nat) (L : List (List Int)) : Steady (RXT b r m L) where
  fr := fun h hf hn => RXI.fr h hf hn
  cut := fun h => RXI.cut h
  wide := fun h hw => RXI.wide h hw
abbrev TwoR (b r m br rr : Nat) (L1 L2 : List (List Int)) : Thing := Star (RXT b r m L1) (RRX br rr L2)
section
variable {W w w1 : World} {P : Nat → Prop} {b r m br rr : Nat} {L L1 L2 : List (List Int)} {f : FuncId} {args : Array Value} {R : Ending → Prop}
theorem TwoR.steady : Steady (TwoR b r m br rr L1 L2) := (RXT.steady b r m L1).star RRX.steady
theorem TwoR.good (h : Held P W w (TwoR b r m br rr L1 L2)) : ∃ Wm, Good L1 Wm := by
  obtain ⟨S, vs, Wm, _, hg, _⟩ := h.left
  exact ⟨Wm, hg⟩
theorem TwoR.rx (h : Held P W w (TwoR b r m br rr L1 L2)) : ∃ S, RXI w S b r m L1 := h.left
theorem TwoR.ry (h : Held P W w (TwoR b r m br rr L1 L2)) : ∃ S, RRX br rr L2 w S := h.right
theorem xT (h : Held P W w (TwoR b r m br rr L1 L2)) (hP : ∀ k, P k → k < w.heap.size)
    (hc : ∀ S, RXI w S b r m L1 → Calls Try.prog f args w fun e w' => R e ∧ RXI w' (fun k => S k ∨ w.heap.size ≤ k) b r m L ∧ Fr S w w') :
    Calls Try.prog f args w fun e w' => R e ∧ Held P W w' (TwoR b r m br rr L L2) ∧ ∀ k o, P k → ob w k = some o → ob w' k = some o :=
  Held.call RRX.steady (RXT.steady b r m L) h hP hc
theorem yT (h : Held P W w (TwoR b r m br rr L1 L2)) (hP : ∀ k, P k → k < w.heap.size)
    (hc : ∀ S, RRX br rr L2 w S → Calls Try.prog f args w fun e w' => R e ∧ RRX br rr L w' (fun k => S k ∨ w.heap.size ≤ k) ∧ Fr S w w') :
    Calls Try.prog f args w fun e w' => R e ∧ Held P W w' (TwoR b r m br rr L1 L) ∧ ∀ k o, P k → ob w k = some o → ob w' k = some o := by
  refine (Held.call (RXT.steady b r m L1) RRX.steady h.swap hP hc).mono ?_
  rintro e w' ⟨x, y, z⟩
  exact ⟨x, y.swap, z⟩
end
end Go.Proofs.Ytfcpodlbombimaa
