/- RingOrder returns true: the walk. No conditions. -/
import Derived.Test.YtfcpodlbombimaaRgP
namespace Go.Proofs.Ytfcpodlbombimaa
open Go.RowKit
set_option linter.unusedSimpArgs false
set_option linter.unusedVariables false
set_option maxRecDepth 100000 in
set_option maxHeartbeats 8000000 in
theorem order_walk (W : World) (A : Option Addr) (N C : Nat) (xs : List Int) (hx : RdI W (.slice A N C) xs) :
    Calls Try.prog 4 #[.slice A N C] W fun e w' => e = .returned (.bool true) ∧ Fr (fun _ => False) W w' := by
  have hN : N = xs.length := RdI.elen hx
  have HN := Lib.hid hN
  clear hN
  have hnew : Calls Try.prog 10 #[.int .i64 3] W _ := newI_rx 3 (by decide) (by decide) W
  go_enter Try.func4, Try.ntmps4
  go_wp2_with fail
  refine hnew.mono ?_
  clear hnew
  rintro e w1 ⟨b, rfl, h1, hf1⟩
  by_cases hbig : 300 < N
  · go_wp2_with fail
    refine (lives_any w1).mono ?_
    rintro e w2 ⟨rfl, hf2⟩
    go_wp2
    go_ret
    exact ⟨rfl, alsoI hf1 hf2⟩
  · have hN3 : N ≤ 300 := by omega
    clear hbig
    have HR := Lib.hid (show ∀ w2, Fr (fun _ => False) W w2 → RdI w2 (.slice A N C) xs from fun w2 hf => hx.of hf (fun _ h => h.elim))
    clear hx
    go_wp2_with fail
    go_loopw [31, 4] (fun si sw wr => ∃ (j : Nat) (want : List Int) (S : Nat → Prop), j ≤ N ∧ si = .int .i64 j ∧ SKI wr sw want ∧ RXI wr S b [[], want, []] ∧ Hid ((∀ k, sw.ownBlock = some k → ¬ S k ∧ W.heap.size ≤ k) ∧ (∀ k, S k → W.heap.size ≤ k) ∧ want.length ≤ j ∧ Fr (fun _ => False) W wr)) (fun si _ _ => N - (intOf si).toNat)
    case atStart =>
      exact ⟨0, [], _, by omega, rfl, Sl.nil _ _ _, h1, Lib.hid ⟨fun k hk => (by cases hk), fun k hk => hk, by simp, hf1⟩⟩
    case round =>
      obtain ⟨j, want, S, hjN, rfl, hsw, hrx, HH⟩ := hrel
      by_cases hlt : j < N
      · obtain ⟨n, hn⟩ : ∃ n, xs[j]? = some n := ⟨_, List.getElem?_eq_getElem (by have := HN.out; omega)⟩
        obtain ⟨g, off, n', cap', heq, hgl, -, c0⟩ := (HR.out wr HH.out.2.2.2).item hn
        cases heq
        have hp1 := pushI_rx hrx ((j : Int) % 2) n
        have hpu := order_push want ((j : Int) % 2) n (by omega) (by have := HH.out.2.2.1; omega)
        have HPU := Lib.hid hpu
        have HNX := Lib.hid hn
        clear hpu hn
        go_wp2_with fail
        refine hp1.mono ?_
        rintro e w2 ⟨rfl, h2, hf2⟩
        clear hp1
        have hp2 := pushI_rx h2 1 n
        rw [HPU.out] at hp2
        go_wp2_with fail
        refine hp2.mono ?_
        rintro e w3 ⟨rfl, h3, hf3⟩
        clear hp2
        have hz2 := hf2.size
        have hf4 : Fr S wr w3 := hf2.step hf3 (fun k hk => hk.imp_right (fun h => by omega))
        have hsw3 : SKI w3 u4 want := Sl.fr hsw hf4 (fun k hk hs => (HH.out.1 k hk).1 hs)
        obtain ⟨A4, N4, C4, rfl⟩ := hsw3.shape
        obtain ⟨z, hz⟩ : ∃ z, wr.heap.size = z := ⟨_, rfl⟩
        have h3' := h3.wide (S2 := fun k => S k ∨ z ≤ k) (fun k hk => by
          rcases hk with (h | h) | h
          · exact .inl h
          · right; omega
          · right; omega)
        have hfw : Fr (fun _ => False) W w3 := HH.out.2.2.2.step hf4 (fun k hk => .inr (HH.out.2.1 k hk))
        have hN4 : N4 = want.length := SKI.elen hsw3
        have hN45 : N4 ≤ 300 := by have := HH.out.2.2.1; omega
        have HN4 := Lib.hid hN4
        have HFW := Lib.hid hfw
        have HZ := Lib.hid (show W.heap.size ≤ z by rw [← hz]; exact HH.out.2.2.2.size)
        clear hz
        have HF4 := Lib.hid hf4
        clear hN4 hfw h2 h3 hf2 hf3 hf4 hrx hsw hz2 hgl
        go_wp2_with fail
        go_loopw [46, 7] (fun si sl w4 => ∃ (t : Nat), t ≤ N4 ∧ si = .int .i64 t ∧ SKI w4 sl (outI (want.take t) n) ∧ Hid (Fr (fun _ => False) w3 w4 ∧ ∀ k, sl.ownBlock = some k → w3.heap.size ≤ k)) (fun si _ _ => N4 - (intOf si).toNat)
        case atStart => exact ⟨0, by omega, rfl, Sl.nil _ _ _, Lib.hid ⟨Fr.refl _ _, fun k hk => (by cases hk)⟩⟩
        case round =>
          obtain ⟨t, htN, rfl, hsl, HI⟩ := hrel
          have hol : (outI (want.take t) n).length ≤ 1000000 := by have := outI_len (want.take t) n; rw [List.length_take] at this; omega
          by_cases hlt2 : t < N4
          · obtain ⟨x, hx⟩ : ∃ x, want[t]? = some x := ⟨_, List.getElem?_eq_getElem (by have := HN4.out; omega)⟩
            obtain ⟨g2, off2, n2, cap2, heq, hgl2, -, -, d0⟩ := SKI.item (Sl.fr hsw3 HI.out.1 (fun _ _ h => h)) hx
            cases heq
            have HX := Lib.hid (outI_snoc n hx)
            clear hx
            by_cases hxn : x = n
            · subst hxn
              go_wp2
              go_roundw
              case rel =>
                refine ⟨t + 1, by omega, by go_num, ?_, HI⟩
                rw [HX.out]; simpa using hsl
              case measure => simp [intOf]; omega
            · have HXN := Lib.hid hxn
              have hbne : (x != n) = true := by simp [hxn]
              clear hxn
              go_wp2_with (at_builtin; go_must (refine wpList_appI rfl _ _ rfl rfl (Sl.alloc hsl _) wr.heap.size x rfl (ob_newAt _ _ _ rfl) hol ?_; intro A2 N2 C2 w5 hs5 hf5 ho5))
              go_roundw
              case rel =>
                refine ⟨t + 1, by omega, by go_num, ?_, Lib.hid ⟨(HI.out.1.alloc _).step hf5 (fun k hk => .inr (HI.out.2 k hk)), fun k hk => ?_⟩⟩
                · rw [HX.out, if_neg HXN.out]; exact hs5
                · rcases ho5 k hk with h | h
                  · exact HI.out.2 k h
                  · have := HI.out.1.size; simp at h; omega
              case measure => simp [intOf]; omega
          · obtain rfl : t = N4 := by omega
            have hall : want.take t = want := by rw [HN4.out, List.take_length]
            rw [hall] at hsl hol
            clear hall
            go_wp2_with (at_builtin; go_must (refine wpList_appI rfl _ _ rfl rfl (Sl.alloc hsl _) wr.heap.size n rfl (ob_newAt _ _ _ rfl) hol ?_; intro A2 N2 C2 w5 hs5 hf5 ho5))
            go_roundw
            case rel =>
              have hf35 : Fr (fun _ => False) w3 w5 := (HI.out.1.alloc _).step hf5 (fun k hk => .inr (HI.out.2 k hk))
              have hcut := h3'.cut.keep hf35
              refine ⟨j + 1, outI want n ++ [n], fun k => (S k ∨ z ≤ k) ∧ k < w3.heap.size, by omega, by go_num, hs5, hcut, Lib.hid ⟨fun k hk => ?_, fun k hk => ?_, ?_, alsoI HFW.out hf35⟩⟩
              · have hk3 : w3.heap.size ≤ k := by
                  rcases ho5 k hk with h | h
                  · exact HI.out.2 k h
                  · have := HI.out.1.size; simp at h; omega
                exact ⟨fun h => by have := h.2; omega, Nat.le_trans HFW.out.size hk3⟩
              · rcases hk.1 with h | h
                · exact HH.out.2.1 k h
                · have := HZ.out; omega
              · have := outI_len want n
                have := HH.out.2.2.1
                simp; omega
            case measure => simp [intOf]; omega
      · obtain rfl : j = N := by omega
        obtain ⟨A4, N4, C4, rfl⟩ := hsw.shape
        have hN4 : N4 = want.length := SKI.elen hsw
        have hN45 : N4 ≤ 300 := by have := HH.out.2.2.1; omega
        have HN4 := Lib.hid hN4
        have HND := Lib.hid (show want.Nodup by have := hrx.nodup; simpa using this)
        have HA := Lib.hid HH.out.1
        have HB := Lib.hid HH.out.2.1
        have HC := Lib.hid HH.out.2.2.2
        clear hN4 HH HR HN h1 hf1 hlt hjN
        go_wp2_with fail
        go_loopw [65] (fun si w2 => ∃ (t : Nat) (S2 : Nat → Prop), t ≤ N4 ∧ si = .int .i64 t ∧ SKI w2 (.slice A4 N4 C4) want ∧ RXI w2 S2 b [[], want.drop t, []] ∧ Hid ((∀ k, (Value.slice A4 N4 C4).ownBlock = some k → ¬ S2 k) ∧ (∀ k, S2 k → W.heap.size ≤ k) ∧ Fr (fun _ => False) W w2)) (fun si _ => N4 - (intOf si).toNat)
        case atStart => exact ⟨0, S, by omega, rfl, hsw, hrx, Lib.hid ⟨fun k hk => (HA.out k hk).1, HB.out, HC.out⟩⟩
        case round =>
          obtain ⟨t, S2, htN, rfl, hs2, hr2, HI⟩ := hrel
          by_cases hlt2 : t < N4
          · obtain ⟨x, hx⟩ : ∃ x, want[t]? = some x := ⟨_, List.getElem?_eq_getElem (by have := HN4.out; omega)⟩
            obtain ⟨g2, off2, n2, cap2, heq, hgl2, -, -, d0⟩ := SKI.item hs2 hx
            cases heq
            have hdr : want.drop t = x :: want.drop (t + 1) := by
              have h5 := (split_at hx).1
              have h6 := (List.getElem?_eq_some_iff.1 hx)
              rw [← h6.2, List.drop_eq_getElem_cons h6.1]
            have hnd : (x :: want.drop (t + 1)).Nodup := by rw [← hdr]; exact HND.out.sublist (List.drop_sublist _ _)
            have hsh := shiftI_rx hr2 1
            rw [hdr, order_shift x _ hnd] at hsh
            clear hx hdr
            go_wp2_with fail
            refine hsh.mono ?_
            rintro e w3 ⟨v, ok, rfl, hF, h3, hf3⟩
            clear hsh
            obtain ⟨rfl, rfl⟩ : ok = true ∧ v = .int .i64 x := by
              rcases hF with ⟨rfl, y, t2, hy, rfl⟩ | ⟨rfl, hy, rfl⟩
              · rw [show rowAtI [[], x :: want.drop (t + 1), []] 1 = x :: want.drop (t + 1) from rfl] at hy; cases hy; exact ⟨rfl, rfl⟩
              · rw [show rowAtI [[], x :: want.drop (t + 1), []] 1 = x :: want.drop (t + 1) from rfl] at hy; cases hy
            clear hF hnd
            have hs3 : SKI w3 (.slice (some ⟨g2, off2, none⟩) N4 C4) want := Sl.fr hs2 hf3 (fun k hk hs => HI.out.1 k hk hs)
            have HI3 : Hid ((∀ k, (Value.slice (some ⟨g2, off2, none⟩) N4 C4).ownBlock = some k → ¬ (S2 k ∨ wr.heap.size ≤ k)) ∧ (∀ k, (S2 k ∨ wr.heap.size ≤ k) → W.heap.size ≤ k) ∧ Fr (fun _ => False) W w3) := Lib.hid ⟨fun k hk h => h.elim (HI.out.1 k hk) (fun h => by have := Sl.lt hs2 hk; omega), fun k hk => hk.elim (HI.out.2.1 k) (fun h => Nat.le_trans HI.out.2.2.size h), HI.out.2.2.step hf3 (fun k hk => .inr (HI.out.2.1 k hk))⟩
            go_wp2
            go_roundw
            case rel => exact ⟨t + 1, _, by omega, by go_num, hs3, h3, HI3⟩
            case measure => simp [intOf]; omega
          · obtain rfl : t = N4 := by omega
            have hdr : want.drop t = [] := by rw [HN4.out]; simp
            rw [hdr] at hr2
            clear hdr
            have hsh := shiftI_rx hr2 1
            rw [show shiftRI [[], [], []] 1 = [[], [], []] from rfl] at hsh
            go_wp2_with fail
            refine hsh.mono ?_
            rintro e w3 ⟨v, ok, rfl, hF, h3, hf3⟩
            clear hsh
            obtain ⟨rfl, rfl⟩ : ok = false ∧ v = .int .i64 0 := by
              rcases hF with ⟨rfl, y, t2, hy, rfl⟩ | ⟨rfl, hy, rfl⟩
              · cases hy
              · exact ⟨rfl, rfl⟩
            have hl0 : Calls Try.prog 18 #[.pointer (some ⟨b, 0, none⟩), .int .i64 0] w3 fun e w' => e = .returned (.int .i64 0) ∧ w' = w3 := lenI_rx h3 0
            have hl1 : Calls Try.prog 18 #[.pointer (some ⟨b, 0, none⟩), .int .i64 1] w3 fun e w' => e = .returned (.int .i64 0) ∧ w' = w3 := lenI_rx h3 1
            have HF3 := Lib.hid (HI.out.2.2.step hf3 (S := fun _ => False) (fun k hk => .inr (HI.out.2.1 k hk)))
            clear hF h3 hf3 hr2 hs2
            go_wp2_with fail
            refine hl0.mono ?_
            rintro e w4 ⟨rfl, rfl⟩
            clear hl0
            go_wp2_with fail
            refine hl1.mono ?_
            rintro e w4 ⟨rfl, rfl⟩
            clear hl1
            go_wp2_with fail
            refine (lives_any _).mono ?_
            rintro e w5 ⟨rfl, hf5⟩
            go_wp2
            go_ret
            exact ⟨rfl, alsoI HF3.out hf5⟩
end Go.Proofs.Ytfcpodlbombimaa
