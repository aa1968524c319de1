/- pantryref02.Rows: Remove, Push, Front, Shift, Turn. Conditions: the plain law of rows. -/
import Derived.Test.YtfcpodlbombimaaRrA
import Derived.Test.YtfcpodlbombimaaCanonT
namespace Go.Proofs.Ytfcpodlbombimaa
open Go.RowKit
set_option linter.unusedSimpArgs false
set_option linter.unusedVariables false
theorem FreshS.of {qs : List Nat} {n0 : Nat} {A : Option Addr} {N C : Nat} (h : ∀ k, (Value.slice A N C).ownBlock = some k → n0 ≤ k) (hq : ∀ q ∈ qs, q < n0) : FreshS qs n0 (.slice A N C) :=
  ⟨A, N, C, rfl, fun a ha => by
    have h1 := h a.block (by rw [ha]; rfl)
    exact ⟨fun hm => by have := hq _ hm; omega, h1⟩⟩
theorem FreshS.of_block {qs : List Nat} {n0 k N C : Nat} (hq : ∀ q ∈ qs, q < n0) (hk : n0 ≤ k) : FreshS qs n0 (.slice (some ⟨k, 0, none⟩) N C) :=
  ⟨_, N, C, rfl, fun a ha => by cases ha; exact ⟨fun hm => by have := hq k hm; omega, hk⟩⟩
theorem one_kvs (l : List Int) : ∀ u ∈ kvsI l, u.oneCell' = true := fun u hu => by
  obtain ⟨x, _, rfl⟩ := List.mem_map.1 hu
  rfl
section
variable {w : World} {b r : Nat} {S : Nat → Prop} {L : List (List Int)}
theorem WhereIs.good (hg : ∃ Wm, Good L Wm) : ∀ l ∈ L, l.length ≤ 5000 := fun l hl => by
  obtain ⟨Wm, hg⟩ := hg
  obtain ⟨j, hj⟩ := List.mem_iff_getElem?.1 hl
  have := hg.row hj; omega
set_option maxRecDepth 100000 in
theorem rremove_any (h0 : RRX b r L w S) (hg : ∃ Wm, Good L Wm) (x : Int) :
    Calls Try.prog 28 #[.pointer (some ⟨b, 0, none⟩), .int .i64 x] w fun e w' => e = .returned (.bool (hasR L x)) ∧ RRX b r (remL L x) w' (fun k => S k ∨ w.heap.size ≤ k) ∧ Fr S w w' := by
  have h0' := h0
  obtain ⟨vs, h, hS⟩ := h0
  have hwh := rwhere_any h x (WhereIs.good hg)
  obtain ⟨q, hq⟩ : ∃ q, hasR L x = q := ⟨_, rfl⟩
  obtain ⟨Lr, hLr⟩ : ∃ Lr, remL L x = Lr := ⟨_, rfl⟩
  rw [hq, hLr]
  have HQ := Lib.hid hq
  have HLR := Lib.hid hLr
  clear hq hLr
  go_enter Try.func28, Try.ntmps28
  go_wp2_with fail
  refine hwh.mono ?_
  rintro e w1 ⟨j, ok, rfl, rfl, hW⟩
  clear hwh
  rcases hW with ⟨rfl, l, hlj, hx⟩ | ⟨rfl, rfl, hx⟩
  · have hres : L.set j (l.filter (fun y => !decide (y = x))) = remL L x := let ⟨Wm, hg⟩ := hg; hg.rem_set hlj hx
    have hjL : j < L.length := (List.getElem?_eq_some_iff.1 hlj).1
    have HHAS : Hid (q = true) := Lib.hid (HQ.out.symm.trans (hasR_true (mem_flat.2 ⟨j, l, hlj, hx⟩)))
    have HRES := Lib.hid (hres.trans HLR.out)
    obtain ⟨l', A, N, C, hl', hv, hs, hN, c0, c1, fz, hf⟩ := h.at hjL
    obtain rfl : l = l' := by rw [hlj] at hl'; cases hl'; rfl
    have hN5 : N ≤ 5000 := by rw [hN]; exact WhereIs.good hg l (List.mem_of_getElem? hlj)
    have HN := Lib.hid hN
    clear hl' hN hres hlj hv
    go_wp2_with fail
    go_loopw [26, 7] (fun si sl w4 => ∃ (t : Nat), t ≤ N ∧ si = .int .i64 t ∧ SKI w4 sl (outI (l.take t) x) ∧ Hid (Fr (fun _ => False) w1 w4 ∧ ∀ k, sl.ownBlock = some k → w1.heap.size ≤ k)) (fun si _ _ => N - (intOf si).toNat)
    case atStart => exact ⟨0, by omega, rfl, Sl.nil _ _ _, Lib.hid ⟨Fr.refl _ _, fun k hk => (by cases hk)⟩⟩
    case round =>
      obtain ⟨t, htN, rfl, hsl, HI⟩ := hrel
      have hol : (outI (l.take t) x).length ≤ 1000000 := by have := outI_len (l.take t) x; rw [List.length_take] at this; omega
      by_cases hlt2 : t < N
      · obtain ⟨y, hy⟩ : ∃ y, l[t]? = some y := ⟨_, List.getElem?_eq_getElem (by have := HN.out; omega)⟩
        obtain ⟨g2, off2, n2, cap2, heq, hgl2, -, -, d0⟩ := SKI.item (Sl.fr hs HI.out.1 (fun _ _ h => h)) hy
        cases heq
        have HX := Lib.hid (outI_snoc x hy)
        clear hy
        by_cases hxn : y = x
        · subst hxn
          go_wp2
          go_roundw
          case rel =>
            refine ⟨t + 1, by omega, by go_num, ?_, HI⟩
            rw [HX.out]; simpa using hsl
          case measure => simp [intOf]; omega
        · have HXN := Lib.hid hxn
          have hbne : (y != x) = true := by simp [hxn]
          clear hxn
          go_wp2_with (at_builtin; go_must (refine wpList_appI rfl _ _ rfl rfl (Sl.alloc hsl _) wr.heap.size y rfl (ob_newAt _ _ _ rfl) hol ?_; intro A2 N2 C2 w5 hs5 hf5 ho5))
          go_roundw
          case rel =>
            refine ⟨t + 1, by omega, by go_num, ?_, Lib.hid ⟨(HI.out.1.alloc _).step hf5 (fun k hk => .inr (HI.out.2 k hk)), fun k hk => ?_⟩⟩
            · rw [HX.out, if_neg HXN.out]; exact hs5
            · rcases ho5 k hk with h | h
              · exact HI.out.2 k h
              · have := HI.out.1.size; simp at h; omega
          case measure => simp [intOf]; omega
      · obtain rfl : t = N := by omega
        have hall : l.take t = l := by rw [HN.out, List.take_length]
        rw [hall] at hsl hol
        obtain ⟨A5, N5, C5, rfl⟩ := hsl.shape
        obtain ⟨p1, p2, p3⟩ := h.setrow hjL HI.out.1 hsl HI.out.2
        have h4 := h.keep HI.out.1
        have e0 := cell_of_ob h4.blk 0
        have e1 : wr.cell? ⟨r, j, none⟩ = some (.slice A t C) := by rw [HI.out.1.cell (by simp) (h.lt (.inr (.inl rfl)))]; exact c1
        have ef := frozen_of_ob h4.rows j
        have HF := Lib.hid (p2.mono' (S2 := S) (fun k hk => hS k (.inr (.inl hk))))
        have HR := Lib.hid (show RRX b r Lr (wr.setCell ⟨r, j, none⟩ (.slice A5 N5 C5)) (fun k => S k ∨ w1.heap.size ≤ k) from by rw [← HRES.out]; exact ⟨_, p1, fun k hk => (p3 k hk).imp_left (hS k)⟩)
        clear hall p1 p2 p3 hs c0 c1 fz h4
        go_wp2
        go_ret
        exact ⟨ret_bool HHAS.out.symm, HR.out, HF.out⟩
  · have HHAS : Hid (q = false) := Lib.hid (HQ.out.symm.trans (hasR_false hx))
    have HRES : Hid (Lr = L) := Lib.hid (HLR.out.symm.trans (rem_id hx))
    go_wp2
    go_ret
    exact ⟨ret_bool HHAS.out.symm, by rw [HRES.out]; exact RRX.steady.wide h0' (fun k hk => .inl hk), Fr.refl _ _⟩
theorem may_split {n x : Int} (hg : ∃ Wm, Good L Wm) (hq : may L n x = true) : ∃ (j : Nat) (l : List Int), n = j ∧ (remL L x)[j]? = some l ∧ j < (remL L x).length ∧ l.length ≤ 4096 ∧ ∀ f : List Int → List Int, putL (remL L x) n f = (remL L x).set j (f l) := by
  obtain ⟨Wm, hg⟩ := hg
  have hm2 : 0 ≤ n ∧ n < L.length ∧ (x ∈ L.flatten ∨ L.flatten.length < 4096) := by simpa [may] using hq
  obtain ⟨j, rfl⟩ : ∃ j : Nat, n = j := ⟨n.toNat, by omega⟩
  have hj : j < (remL L x).length := by rw [rem_len]; omega
  obtain ⟨l, hl⟩ : ∃ l, (remL L x)[j]? = some l := ⟨_, List.getElem?_eq_getElem hj⟩
  exact ⟨j, l, rfl, hl, hj, (hg.rem x).row hl, fun f => putL_atI hl f⟩
set_option maxRecDepth 100000 in
set_option maxHeartbeats 2000000 in
theorem rpush_any (h0 : RRX b r L w S) (hg : ∃ Wm, Good L Wm) (n x : Int) :
    Calls Try.prog 25 #[.pointer (some ⟨b, 0, none⟩), .int .i64 n, .int .i64 x] w fun e w' => e = .returned (.bool (may L n x)) ∧ RRX b r (pushR L n x) w' (fun k => S k ∨ w.heap.size ≤ k) ∧ Fr S w w' := by
  have h0' := h0
  obtain ⟨vs, h, hS⟩ := h0
  have hmost : L.flatten.length ≤ 4096 := let ⟨Wm, hg⟩ := hg; hg.most
  have hmc := rmay_any h hmost n x
  cases hq : may L n x with
  | false =>
    rw [hq] at hmc
    rw [push_no hq]
    clear hq
    go_enter Try.func25, Try.ntmps25
    go_wp2_with fail
    refine hmc.mono ?_
    rintro e w1 ⟨rfl, rfl⟩
    go_wp2
    go_ret
    exact ⟨rfl, RRX.steady.wide h0' (fun k hk => .inl hk), Fr.refl _ _⟩
  | true =>
    rw [hq] at hmc
    obtain ⟨j, l, rfl, hl, hjr, hl4, hput⟩ := may_split hg hq
    have hres : pushR L j x = (remL L x).set j (l ++ [x]) := by unfold pushR; rw [if_pos hq, hput]
    rw [hres]
    have hrm := rremove_any h0' hg x
    clear hq hres hput
    go_enter Try.func25, Try.ntmps25
    go_wp2_with fail
    refine hmc.mono ?_
    rintro e w1 ⟨rfl, rfl⟩
    clear hmc
    go_wp2_with fail
    refine hrm.mono ?_
    rintro e w2 ⟨rfl, ⟨vs2, h2, hS2⟩, hf2⟩
    clear hrm h h0'
    obtain ⟨l', A, N, C, hl', hv, hs, hN, c0, c1, fz, hf⟩ := h2.at hjr
    obtain rfl : l = l' := by rw [hl] at hl'; cases hl'; rfl
    have hN5 : N ≤ 4096 := by omega
    obtain ⟨i0, hi, hz, hsz, hby⟩ := infoofI zeroI
    have HN := Lib.hid hN
    have HV := Lib.hid hv
    have HLL := Lib.hid hl
    have g0 := ob_lt h2.blk
    have g1 := ob_lt h2.rows
    clear hl' hN hv hl
    have hjL : j < (remL L x).length := hjr
    have f1 := fz j
    clear fz
    have hbl := h2.blk
    have hrl := h2.rows
    have hFr : ∀ q ∈ [b, r], q < w2.heap.size := by simp; exact ⟨g0, g1⟩
    have gb1 : b < w2.heap.size + 1 := by omega
    have gr1 : r < w2.heap.size + 1 := by omega
    go_upto_region 4 with fail
    refine wp_region_canonT [b, r] [0, 1, 2, 3, 4, 6, 7, 8, 9, 10, 11, 12, 14] [[5, 15, 13, 16, 17, 18], [5, 13, 15, 16, 17, 18], [15, 5, 13, 16, 17, 18]] (by kernel_rfl) (by simp) (by kernel_rfl) (by simp [hbl, hrl]) (fun K hK => ?_)
    intro o ho
    simp only [List.mem_cons, List.not_mem_nil, or_false] at ho
    rcases ho with rfl | rfl | rfl
    all_goals (
      simp only [List.map_cons, List.map_nil, List.getD_cons_succ, List.getD_cons_zero, List.cons_append, List.nil_append]
      go_wp2_with (at_builtin; go_must (first
        | (refine wpList_appsrc (v := .slice (some ⟨_, 0, none⟩) 0 0) (y := .slice A N C) rfl (.tmp 20) (.tmp 27) 22 rfl Try.underlying22 hi hz hsz hby rfl (by decide) rfl (by first | exact Sl.builtAt _ [] 0 _ (by simp) rfl (by decide) | exact (Sl.builtAt _ [] 0 _ (by simp) rfl (by decide)).alloc _) rfl (by first | exact (hs.drew.alloc _).alloc _ | exact hs.drew.alloc _) (one_kvs l) (by simp only [sliceLen, maxLen]; omega) (by simp only [sliceLen]; omega) ?_
           intro v3 w3 hs3 hf3 ho3 hl3
           obtain ⟨A3, N3, C3, rfl⟩ := hs3.shape
           have hfA : Fr (fun _ => False) w2 w3 := Fr.step (by first | exact ((Fr.refl _ w2).drew.alloc _).alloc _ | exact (Fr.refl _ w2).drew.alloc _) hf3 (fun k hk => by cases hk; right; simp)
           have hN30 : N3 = 0 + N := hl3
           have hN3 : N3 ≤ 4096 := by omega
           have ho3' : ∀ k, (Value.slice A3 N3 C3).ownBlock = some k → w2.heap.size ≤ k := fun k hk => by
             rcases ho3 with h | ⟨q, h, hq⟩
             · rw [h] at hk; cases hk; simp
             · rw [h] at hk; cases hk; simp at hq; omega
           have hFA := FreshS.of ho3' hFr
           first
             | (have ox : ob w3 (w2.heap.size + 1) = some (.cells #[.int .i64 x] 3 (0, 0)) := hf3.keep (fun e => by simp [Value.ownBlock] at e) (by first | exact ob_newAt _ _ _ (by simp) | (rw [ob_alloc _ _ _ (by simp)]; exact ob_newAt _ _ _ (by simp))))
             | (have ox : ob w3 w2.heap.size = some (.cells #[.int .i64 x] 3 (0, 0)) := hf3.keep (fun e => by simp [Value.ownBlock] at e) (by first | (rw [ob_alloc _ _ _ (by simp)]; exact ob_newAt _ _ _ (by simp)) | exact ob_newAt _ _ _ (by simp)))
             | (have ox : ob w3 w2.heap.size = some (.cells #[.int .i64 x] 3 (0, 0)) := hf3.keep (fun e => by simp [Value.ownBlock] at e) ((ob_alloc _ _ _ (by show w2.heap.size < (w2.heap.push _).size; simp)).trans (ob_new w2.drew _)))
             | skip
           clear hN30)
        | (refine wpList_app (v := .slice A3 N3 C3) rfl (.tmp 28) (.tmp 30) 22 rfl Try.underlying22 hi hz hsz hby rfl (by decide) rfl (by first | exact hs3.alloc _ | exact hs3) _ 1 1 [.int .i64 x] rfl (by first | exact ox | exact ob_new _ _ | exact ob_newAt _ _ _ rfl) rfl (by simp [Value.oneCell']) (by decide) (by simp only [maxLen, sliceLen]; omega) (by simp only [sliceLen]; omega) ?_
           intro v4 w4 hs4 hf4 ho4 hl4
           obtain ⟨A4, N4, C4, rfl⟩ := hs4.shape
           have hfB : Fr (fun _ => False) w2 w4 := Fr.step (by first | exact hfA.alloc _ | exact hfA) hf4 (fun k hk => .inr (ho3' k hk))
           have ho4' : ∀ k, (Value.slice A4 N4 C4).ownBlock = some k → w2.heap.size ≤ k := fun k hk => by
             rcases ho4 with h | ⟨q, h, hq⟩
             · rw [h] at hk; exact ho3' k hk
             · rw [h] at hk; cases hk; have := hfA.size; (try simp at hq); omega
           have e4 := (hfB.cell (a := ⟨r, j, none⟩) (by simp) g1).trans c1
           have f4 := frozen_of_ob (h2.keep hfB).rows j)))
      refine hK _ _ (by kernel_rfl) (by simp [appF, Act.eval, hFA, FreshS.of_block, hFr]) (by simp [loadIn, Act.eval]) ?_
      clear hK K
      obtain ⟨p1, p2, p3⟩ := h2.setrow hjr hfB (l2 := l ++ [x]) (by
        have e : [] ++ kvsI l ++ [.int .i64 x] = kvsI (l ++ [x]) := by simp [kvsI, kvI]
        rw [e] at hs4; exact hs4) ho4'
      have HR := Lib.hid (show RRX b r ((remL L x).set j (l ++ [x])) (w4.setCell ⟨r, j, none⟩ (.slice A4 N4 C4)) (fun k => S k ∨ w1.heap.size ≤ k) from ⟨_, p1, fun k hk => (p3 k hk).elim (hS2 k) (fun h => by have := hf2.size; right; omega)⟩)
      have HF := Lib.hid ((hf2.step p2 (fun k hk => by rw [hk]; exact hS2 r (.inr (.inl rfl))) : Fr S w1 (w4.setCell ⟨r, j, none⟩ (.slice A4 N4 C4))))
      clear p1 p2 p3
      go_wp2
      go_ret
      exact ⟨rfl, HR.out, HF.out⟩)
end
end Go.Proofs.Ytfcpodlbombimaa
