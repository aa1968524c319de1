/- RingOnce returns true: the walk. No conditions. -/
import Derived.Test.YtfcpodlbombimaaRgOS
import Derived.Deep.CutBlock
import Derived.Deep.RegionHeld3
namespace Go.Proofs.Ytfcpodlbombimaa
open Go.RowKit
set_option linter.unusedSimpArgs false
set_option linter.unusedVariables false
theorem row4 (n : Int) : ∃ ρ : Int, wrap64 ((IntKind.u64.wrap n).tmod 4) = ρ ∧ 0 ≤ ρ ∧ ρ < 4 := by
  refine ⟨_, rfl, ?_⟩
  rw [IntKind.wrap_u64, Int.tmod_eq_emod_of_nonneg (by omega)]
  unfold wrap64
  omega
set_option maxRecDepth 100000 in
set_option maxHeartbeats 8000000 in
theorem once_walk (W : World) (A : Option Addr) (N C : Nat) (xs : List Ra) (hx : Rd W 3 (.slice A N C) (xs.flatMap ra)) (hN : N = xs.length) :
    Calls Try.prog 6 #[.slice A N C] W fun e w' => e = .returned (.bool true) ∧ Fr (fun _ => False) W w' := by
  have HN := Lib.hid hN
  clear hN
  have hnew : Calls Try.prog 10 #[.int .i64 4] W _ := newI_rx 4 (by decide) (by decide) W
  go_enter Try.func6, Try.ntmps6
  go_wp2_with fail
  refine hnew.mono ?_
  clear hnew
  rintro e w1 ⟨b, r, m, rfl, h1, hf1⟩
  by_cases hbig : 150 < N
  · go_wp2_with fail
    refine (lives_any w1).mono ?_
    rintro e w2 ⟨rfl, hf2⟩
    go_wp2
    go_ret
    exact ⟨rfl, alsoI hf1 hf2⟩
  · have hN3 : N ≤ 150 := by omega
    clear hbig
    have HR := Lib.hid (show ∀ w2, Fr (fun _ => False) W w2 → Rd w2 3 (.slice A N C) (xs.flatMap ra) from fun w2 hf => hx.of hf (fun _ h => h.elim))
    have h0 : OS (fun _ => False) W w1 b r m [[], [], [], []] (.slice none 0 0) [] := ⟨_, h1, Sl.nil _ _ _, fun k hk => (by cases hk), fun k hk => ⟨hk, fun h => h⟩, hf1⟩
    clear hx h1 hf1
    go_wp2_with fail
    go_loopw [29, 4] (fun si sv wr => ∃ (j : Nat) (L : List (List Int)) (inn : List Int), j ≤ N ∧ si = .int .i64 j ∧ OS (fun _ => False) W wr b r m L sv inn ∧ Hid (inn.Perm L.flatten ∧ L.length = 4 ∧ inn.length ≤ j)) (fun si _ _ => N - (intOf si).toNat)
    case atStart => exact ⟨0, _, _, by omega, rfl, h0, Lib.hid ⟨List.Perm.refl _, rfl, by simp⟩⟩
    case round =>
      obtain ⟨j, L, inn, hjN, rfl, hos, HH⟩ := hrel
      clear h0
      by_cases hlt : j < N
      · obtain ⟨a, ha⟩ : ∃ a, xs[j]? = some a := ⟨_, List.getElem?_eq_getElem (by have := HN.out; omega)⟩
        obtain ⟨g, off, n', cap', heq, hgl, c0, c1, c2⟩ := Rd.act (HR.out wr hos.hf) ha
        cases heq
        obtain ⟨kd, rw_, it⟩ := a
        dsimp only at c0 c1 c2
        obtain ⟨ba, hba⟩ : ∃ ba, wr.heap.size = ba := ⟨_, rfl⟩
        obtain ⟨w2, hw2⟩ : ∃ w2, wr.alloc (.cells #[.int .i64 kd, .int .i64 rw_, .int .i64 it] 42) = w2 := ⟨_, rfl⟩
        have oa : ob w2 ba = some (.cells #[.int .i64 kd, .int .i64 rw_, .int .i64 it] 42 (0, 0)) := by rw [← hw2, ← hba]; exact ob_new _ _
        have hf2 : Fr (fun _ => False) wr w2 := by rw [← hw2]; exact (Fr.refl _ wr).alloc _
        clear ha
        have hosP : OS (fun k => k = ba) W wr b r m L u4 inn := hos.safe (fun k hk _ => by omega)
        have hos2 := hosP.keep hf2
        have hos2l : ∀ k, k = ba → k < w2.heap.size := fun k hk => by rw [hk]; exact ob_lt oa
        have d0 := cell_of_ob oa 0
        have d1 := cell_of_ob oa 1
        have d2 := cell_of_ob oa 2
        have HINN := Lib.hid (show inn.length ≤ 5000 by have := HH.out.2.2; omega)
        clear hos hosP
        go_upto_block 2 with fail
        clear hw2 hba hf2 c0 c1 c2 hgl
        obtain ⟨ρ, hρ, hρ0, hρ4⟩ := row4 rw_
        simp only [hρ]
        clear hρ
        have HL4 := Lib.hid HH.out.2.1
        have HPM := Lib.hid HH.out.1
        have HLJ := Lib.hid HH.out.2.2
        have hmay : may L ρ it = true := may_iff.2 ⟨hρ0, by rw [HL4.out]; omega, .inr (by have := HPM.out.length_eq; have := HLJ.out; omega)⟩
        have HNN := Lib.hid hos2.nodup
        go_cut [4] (fun s wc => ∃ (L' : List (List Int)) (inn' : List Int), OS (fun k => k = ba) W wc b r m L' s inn' ∧ Hid (inn'.Perm L'.flatten ∧ L'.length = 4 ∧ inn'.length ≤ j + 1))
        case first =>
          by_cases hk0 : kd = 0
          · subst hk0
            have hp := OS.call hos2 hos2l (R := fun e => e = .returned (.bool true)) (f := 12) (args := #[.pointer (some ⟨b, 0, none⟩), .int .i64 ρ, .int .i64 it]) (L1 := pushR L ρ it) (fun S hS => by have := pushI_rx hS ρ it; rw [hmay] at this; exact this)
            have HP := Lib.hid (once_put HPM.out (push_perm hmay).1)
            have HQ := Lib.hid ((push_perm hmay).2.trans HL4.out)
            clear hmay
            go_wp2_with fail
            refine hp.mono ?_
            rintro e w3 ⟨rfl, hos3, hkp⟩
            have oa3 := hkp _ _ rfl oa
            have e2 := cell_of_ob oa3 2
            have hwith := with_any hos3.sl HINN.out it
            clear hp hkp d0 d1 d2
            go_wp2_with fail
            refine hwith.mono ?_
            rintro e w4 ⟨A4, N4, C4, rfl, hs4, ho4, hf4⟩
            clear hwith
            go_wp2_with fail
            go_meet
            refine ⟨_, _, hos3.newv hf4 hs4 ho4, Lib.hid ⟨HP.out, HQ.out, ?_⟩⟩
            have := outI_len inn it; have := HLJ.out; simp; omega
          by_cases hk1 : kd = 1
          · subst hk1
            have hp := OS.call hos2 hos2l (R := fun e => e = .returned (.bool true)) (f := 20) (args := #[.pointer (some ⟨b, 0, none⟩), .int .i64 ρ, .int .i64 it]) (L1 := frontR L ρ it) (fun S hS => by have := frontI_rx hS ρ it; rw [hmay] at this; exact this)
            have HP := Lib.hid (once_put HPM.out (front_perm hmay).1)
            have HQ := Lib.hid ((front_perm hmay).2.trans HL4.out)
            clear hmay hk0
            go_wp2_with fail
            refine hp.mono ?_
            rintro e w3 ⟨rfl, hos3, hkp⟩
            have oa3 := hkp _ _ rfl oa
            have e2 := cell_of_ob oa3 2
            have hwith := with_any hos3.sl HINN.out it
            clear hp hkp d0 d1 d2
            go_wp2_with fail
            refine hwith.mono ?_
            rintro e w4 ⟨A4, N4, C4, rfl, hs4, ho4, hf4⟩
            clear hwith
            go_wp2_with fail
            go_meet
            refine ⟨_, _, hos3.newv hf4 hs4 ho4, Lib.hid ⟨HP.out, HQ.out, ?_⟩⟩
            have := outI_len inn it; have := HLJ.out; simp; omega
          by_cases hk3 : kd = 3
          · subst hk3
            clear hmay hk0 hk1
            have HREM := Lib.hid (once_rem (x := it) HPM.out)
            have hS0 : w2.cell? ⟨ba, 2, none⟩ = some (.int .i64 it) := d2
            have HH1 := Lib.hid (once_has (x := it) HPM.out HNN.out)
            obtain ⟨n5, hn5⟩ : ∃ n5, (outI inn it).length = n5 := ⟨_, rfl⟩
            obtain ⟨A4, N4, C4, rfl⟩ := hos2.sl.shape
            have hN4 : N4 = inn.length := SKI.elen hos2.sl
            obtain ⟨q, hq⟩ : ∃ q, decide ((n5 : Int) < (N4 : Int)) = q := ⟨_, rfl⟩
            have hqq : hasR L it = q := by rw [HH1.out, hn5, ← hN4, hq]
            by_cases hlt5 : (n5 : Int) < (N4 : Int)
            all_goals (
              first | (rw [decide_eq_true hlt5] at hq) | (rw [decide_eq_false hlt5] at hq)
              subst hq
              have hrm : ∀ p, Calls Try.prog 17 #[.pointer (some ⟨b, 0, none⟩), .int .i64 it] (w2.drewN p) fun e w' => e = .returned (.bool _) ∧ OS (fun k => k = ba) W w' b r m (remL L it) (.slice A4 N4 C4) inn ∧ ∀ k o, k = ba → ob w2 k = some o → ob w' k = some o := fun p =>
                OS.call (hos2.keep ⟨rfl, rfl, rfl, Nat.le_refl _, fun _ _ _ => rfl⟩) hos2l (R := fun e => e = .returned (.bool _)) (fun S hS => by have := removeI_rx hS it; rw [hqq] at this; exact this)
              have HN5 := Lib.hid hn5
              have HRL := Lib.hid ((rem_len L it).trans HL4.out)
              clear d0 d1 hqq HH1 hn5 hN4
              have HRM := Lib.hid hrm
              clear hrm
              go_wp2_with fail
              go_region_held3 (fun w' => w'.cell? ⟨ba, 2, none⟩ = some (.int .i64 it)) (first | exact hS0 | assumption | go_keep)
                (first
                  | (go_at_call 17; refine (HRM.out _).mono ?_; rintro e w3 ⟨rfl, hos3, hkp⟩; have oa3 := hkp _ _ rfl oa; have hS3 := cell_of_ob oa3 2)
                  | (go_at_call 22; refine (without_any (hos3.keep (Fr.refl _ _)).sl HINN.out it).mono ?_; rintro e w4 ⟨A5, N5, C5, rfl, hs5, ho5, hf5⟩; have oa4 := hf5.keep (fun h => h) oa3; have hS4 := cell_of_ob oa4 2; obtain rfl : N5 = n5 := (SKI.elen hs5).trans HN5.out))
              have hos4 := hos3.keep hf5
              have hwo := without_any hos4.sl HINN.out it
              clear hos2 hos3 oa d2 hS0 hS3 hs5 oa3 hkp HRM
              go_wp2_with fail
              refine hwo.mono ?_
              rintro e w5 ⟨A6, N6, C6, rfl, hs6, ho6, hf6⟩
              clear hwo
              go_wp2_with fail
              go_meet
              refine ⟨_, _, hos4.newv hf6 hs6 ho6, Lib.hid ⟨HREM.out, HRL.out, ?_⟩⟩
              have := outI_len inn it; have := HLJ.out; omega)
          · clear hmay
            go_wp2_with fail
            go_meet
            exact ⟨_, _, hos2, Lib.hid ⟨HPM.out, HL4.out, by have := HLJ.out; omega⟩⟩
        case rest =>
          obtain ⟨L', inn', hosc, HH2⟩ := hcut
          have hos3 : OS (fun _ => False) W wc b r m L' u4 inn' := hosc.safe (fun k hk _ => hk.elim)
          have HNN2 := Lib.hid hosc.nodup
          have HCL := Lib.hid (show cntL L' 4 = inn'.length by rw [cntL_all (by rw [HH2.out.2.1]; omega), HH2.out.1.length_eq])
          have HB2 := Lib.hid (show inn'.length ≤ 5000 by have := HH2.out.2.2; omega)
          clear hosc oa d0 d1 d2 hmay hos2 hos2l
          go_wp2_with fail
          go_loopw [8, 9] (fun sn sr wl => ∃ q : Nat, q ≤ 4 ∧ sr = .int .i64 q ∧ sn = .int .i64 (cntL L' q) ∧ OS (fun _ => False) W wl b r m L' u4 inn') (fun _ sr _ => 4 - (intOf sr).toNat)
          case atStart => exact ⟨0, by omega, rfl, rfl, hos3⟩
          case round =>
            obtain ⟨q, hq4, rfl, rfl, hosl⟩ := hrel
            clear hos3
            obtain ⟨A4, N4, C4, rfl⟩ := hosl.sl.shape
            have hN4 : N4 = inn'.length := SKI.elen hosl.sl
            have HN4 := Lib.hid hN4
            have hN45 : N4 ≤ 5000 := by have := HB2.out; omega
            clear hN4
            by_cases hlt4 : q < 4
            · obtain ⟨l, hl⟩ : ∃ l, L'[q]? = some l := ⟨_, List.getElem?_eq_getElem (by rw [HH2.out.2.1]; omega)⟩
              have HC := Lib.hid (cntL_succ hl)
              have hcl : cntL L' (q + 1) ≤ 5000 := by have := cntL_le L' (q + 1); have := HH2.out.1.length_eq; have := HB2.out; omega
              have hll : cntL L' q + l.length ≤ 5000 := by rw [← HC.out]; exact hcl
              obtain ⟨SS, hrx⟩ := hosl.rx
              have hlist := list_any hrx q (-1)
              rw [rowAtI_in hl, show mostOf l (-1) = l from if_neg (by omega)] at hlist
              have HL := Lib.hid hl
              obtain ⟨cq, hcq⟩ : ∃ c, cntL L' q = c := ⟨_, rfl⟩
              have HCQ := Lib.hid hcq
              simp only [hcq] at hll ⊢
              clear hl hcl hcq hrx
              go_wp2_with fail
              refine hlist.mono ?_
              rintro e w5 ⟨v5, rfl, hs5, ho5, hf5⟩
              clear hlist
              obtain ⟨A5, N5, C5, rfl⟩ := hs5.shape
              have hN5 : N5 = l.length := SKI.elen hs5
              have HN5 := Lib.hid hN5
              have hN55 : cq + N5 ≤ 5000 := by omega
              have hos5 := hosl.keep hf5
              clear hN5 hll ho5 hosl
              go_wp2_with fail
              go_loopw [8, 89] (fun sn si wl => ∃ t : Nat, t ≤ N5 ∧ si = .int .i64 t ∧ sn = .int .i64 ((cq + t : Nat) : Int) ∧ OS (fun _ => False) W wl b r m L' (.slice A4 N4 C4) inn' ∧ SKI wl (.slice A5 N5 C5) l) (fun _ si _ => N5 - (intOf si).toNat)
              case atStart => exact ⟨0, by omega, rfl, by simp, hos5, hs5⟩
              case round =>
                obtain ⟨t, ht5, rfl, rfl, hosl, hsl⟩ := hrel
                clear hos5 hs5 hf5
                by_cases hltt : t < N5
                · obtain ⟨x, hx⟩ : ∃ x, l[t]? = some x := ⟨_, List.getElem?_eq_getElem (by have := HN5.out; omega)⟩
                  obtain ⟨g6, off6, n6, cap6, heq, hgl6, -, -, c6⟩ := SKI.item hsl hx
                  cases heq
                  have HX := Lib.hid (List.mem_of_getElem? hx)
                  obtain ⟨SS, hrx⟩ := hosl.rx
                  have hwh := where_at hrx HL.out HX.out
                  clear hx hrx
                  go_wp2_with fail
                  refine hwh.mono ?_
                  rintro e w6 ⟨rfl, rfl⟩
                  have hwo := without_any hosl.sl HB2.out x
                  clear hwh
                  go_wp2_with fail
                  refine hwo.mono ?_
                  rintro e w7 ⟨A7, N7, C7, rfl, hs7, ho7, hf7⟩
                  have hN7 : N7 = (outI inn' x).length := SKI.elen hs7
                  have hne : N7 + 1 = N4 := by
                    have h1 := flt_len (HH2.out.1.nodup_iff.2 HNN2.out) (HH2.out.1.mem_iff.2 (List.mem_flatten.2 ⟨l, List.mem_of_getElem? HL.out, HX.out⟩))
                    have := HN4.out; omega
                  have hb7 : ((N7 : Int) == (N4 : Int)) = false := by simp; omega
                  have hosl7 := hosl.keep hf7
                  have hsl7 : SKI w7 _ l := Sl.fr hsl hf7 (fun _ _ h => h)
                  clear hwo hosl hsl c6 hN7 hs7 ho7
                  go_wp2
                  go_roundw
                  case rel => exact ⟨t + 1, by omega, by go_num, by go_num, hosl7, hsl7⟩
                  case measure => simp [intOf]; omega
                · obtain rfl : t = N5 := by omega
                  go_wp2
                  go_roundw
                  case rel => exact ⟨q + 1, by omega, by go_num, by rw [HC.out, HCQ.out, ← HN5.out], hosl⟩
                  case measure => simp [intOf]; omega
            · obtain rfl : q = 4 := by omega
              obtain ⟨cq, hcq⟩ : ∃ c, cntL L' 4 = c := ⟨_, rfl⟩
              obtain rfl : cq = N4 := by rw [← hcq, HCL.out, HN4.out]
              simp only [hcq]
              clear hcq
              go_wp2
              go_roundw
              case rel => exact ⟨j + 1, L', inn', by omega, by go_num, hosl, HH2⟩
              case measure => simp [intOf]; omega
      · obtain rfl : j = N := by omega
        go_wp2_with fail
        refine (lives_any _).mono ?_
        rintro e w9 ⟨rfl, hf9⟩
        go_wp2
        go_ret
        exact ⟨rfl, alsoI hos.hf hf9⟩
end Go.Proofs.Ytfcpodlbombimaa
