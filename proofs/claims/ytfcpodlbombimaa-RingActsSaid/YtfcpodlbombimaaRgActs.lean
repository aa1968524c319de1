/- RingActs returns true: the walk. No conditions. -/
import Derived.Test.YtfcpodlbombimaaRrC
import Derived.Test.YtfcpodlbombimaaRgList
import Derived.Test.YtfcpodlbombimaaRgLives
import Derived.Test.YtfcpodlbombimaaRgOS
import Derived.Test.YtfcpodlbombimaaIntsG
import Derived.Deep.CutBlock
import Derived.Deep.RegionHeld3
namespace Go.Proofs.Ytfcpodlbombimaa
open Go.RowKit
set_option linter.unusedSimpArgs false
set_option linter.unusedVariables false
theorem nring_no (n : Int) (hn : n < 1 ∨ 64 < n) (w : World) : Calls Try.prog 10 #[.int .i64 n] w fun e w' => e = .returned (.pointer none) ∧ w' = w := by
  rcases hn with h | h
  · go_enter Try.func10, Try.ntmps10
    go_wp2
    go_ret
    exact ⟨rfl, rfl⟩
  · have h2 : ¬ n < 1 := by omega
    have h3 : 1 ≤ n := by omega
    go_enter Try.func10, Try.ntmps10
    go_wp2
    go_ret
    exact ⟨rfl, rfl⟩
theorem first_uniq {l : List Int} {x y : Value} {o p : Bool} (h : FirstIsI l x o) (k : FirstIsI l y p) : x = y ∧ o = p := by
  rcases h with ⟨rfl, a, t, rfl, rfl⟩ | ⟨rfl, rfl, rfl⟩ <;> rcases k with ⟨rfl, a', t', h2, rfl⟩ | ⟨rfl, h2, rfl⟩
  · cases h2; exact ⟨rfl, rfl⟩
  · cases h2
  · cases h2
  · exact ⟨rfl, rfl⟩
theorem first_int {l : List Int} {x : Value} {o : Bool} (h : FirstIsI l x o) : ∃ n : Int, x = .int .i64 n := by
  rcases h with ⟨_, a, _, _, rfl⟩ | ⟨_, _, rfl⟩
  · exact ⟨a, rfl⟩
  · exact ⟨0, rfl⟩
theorem where_uniq {L : List (List Int)} {Wm : List (Int × Int)} (hg : Good L Wm) {x : Int} {j k : Nat} {o p : Bool} (h : WhereIs L x j o) (h2 : WhereIs L x k p) : j = k ∧ o = p := by
  rcases h with ⟨rfl, l, hl, hx⟩ | ⟨rfl, rfl, hx⟩ <;> rcases h2 with ⟨rfl, l', hl', hx'⟩ | ⟨rfl, rfl, hx'⟩
  · have a := hg.get_in hl hx
    rw [hg.get_in hl' hx'] at a
    have : (k : Int) = j := by simpa using a
    exact ⟨by omega, rfl⟩
  · exact (hx' (mem_flat.2 ⟨j, l, hl, hx⟩)).elim
  · exact (hx (mem_flat.2 ⟨k, l', hl', hx'⟩)).elim
  · exact ⟨rfl, rfl⟩
theorem put_len (L : List (List Int)) (n : Int) (f : List Int → List Int) : (putL L n f).length = L.length := by unfold putL; simp
theorem push_len (L : List (List Int)) (n x : Int) : (pushR L n x).length = L.length := by
  unfold pushR; split
  · rw [put_len, rem_len]
  · rfl
theorem front_len (L : List (List Int)) (n x : Int) : (frontR L n x).length = L.length := by
  unfold frontR; split
  · rw [put_len, rem_len]
  · rfl
theorem shift_len (L : List (List Int)) (n : Int) : (shiftRI L n).length = L.length := by
  unfold shiftRI; split
  · rfl
  · rw [rem_len]
theorem turn_len (L : List (List Int)) (n : Int) : (turnRI L n).length = L.length := by
  unfold turnRI; split
  · rfl
  · rw [push_len]
theorem rd_take {w : World} {A : Option Addr} {N C m : Nat} {cs : List Value} (h : Rd w 1 (.slice A N C) cs) (hm : m ≤ N) : Rd w 1 (.slice A m C) (cs.take m) := by
  rcases h with ⟨h, rfl⟩ | ⟨a, n, cap, h, hl, hc⟩
  · cases h
    obtain rfl : m = 0 := by omega
    exact .inl ⟨rfl, rfl⟩
  · cases h
    refine .inr ⟨a, m, C, rfl, by rw [List.length_take]; omega, fun j u hu => hc j u ?_⟩
    rw [List.getElem?_take] at hu
    split at hu
    · exact hu
    · cases hu
theorem fr_drewN (w : World) (p : Nat) : Fr (fun _ => False) w (w.drewN p) := ⟨rfl, rfl, rfl, Nat.le_refl _, fun _ _ _ => rfl⟩
set_option maxRecDepth 100000 in
set_option maxHeartbeats 16000000 in
theorem ringacts_walk (W : World) (rows : Int) (A : Option Addr) (N C : Nat) (xs : List Ra) (hx : Rd W 3 (.slice A N C) (xs.flatMap ra)) (hN : N = xs.length) (most : Int) :
    Calls Try.prog 7 #[.int .i64 rows, .slice A N C, .int .i64 most] W fun e w' => e = .returned (.bool true) ∧ Fr (fun _ => False) W w' := by
  have HN := Lib.hid hN
  clear hN
  by_cases hout : rows < 1 ∨ 64 < rows
  · have hn1 := nring_no rows hout W
    have hn2 := rnew_no rows hout W
    clear hout
    go_enter Try.func7, Try.ntmps7
    go_wp2_with fail
    refine hn1.mono ?_
    rintro e w1 ⟨rfl, rfl⟩
    go_wp2_with fail
    refine hn2.mono ?_
    rintro e w2 ⟨rfl, rfl⟩
    go_wp2_with fail
    refine (lives_any _).mono ?_
    rintro e w9 ⟨rfl, hf9⟩
    go_wp2
    go_ret
    exact ⟨rfl, hf9⟩
  obtain ⟨nr, rfl⟩ : ∃ nr : Nat, rows = nr := ⟨rows.toNat, by omega⟩
  have hm0 : 1 ≤ nr := by omega
  have hm1 : nr ≤ 64 := by omega
  clear hout
  have hnew := newI_rx nr hm0 hm1 W
  go_enter Try.func7, Try.ntmps7
  go_wp2_with fail
  refine hnew.mono ?_
  rintro e w1 ⟨b, r, m, rfl, hX1, hf1⟩
  clear hnew
  go_wp2_with fail
  refine (rnew_any nr hm0 hm1 w1).mono ?_
  rintro e w2 ⟨br, rr, rfl, hR2, hf2⟩
  have h0 : Held (fun _ => False) W w2 (TwoR b r m br rr (List.replicate nr []) (List.replicate nr [])) := by
    have hp : Held (fun _ => False) W w1 (RXT b r m (List.replicate nr [])) := Held.mk (S := fun k => W.heap.size ≤ k) (RXT.steady _ _ _ _) hX1 (fun k hk => ⟨hk, fun h => h⟩) hf1
    exact (hp.add (RXT.steady _ _ _ _) RRX.steady hf2 hR2 (fun k hk => ⟨hk, fun h => h⟩)).swap
  have hf02 := hf1.step hf2 (fun _ h => h.elim)
  clear hX1 hR2 hf1 hf2
  by_cases hbig : 150 < N
  · go_wp2_with fail
    refine (lives_any _).mono ?_
    rintro e w3 ⟨rfl, hf3⟩
    go_wp2
    go_ret
    exact ⟨rfl, hf02.step hf3 (fun _ h => h.elim)⟩
  have hN3 : N ≤ 150 := by omega
  clear hbig
  have HR := Lib.hid (show ∀ w2, Fr (fun _ => False) W w2 → Rd w2 3 (.slice A N C) (xs.flatMap ra) from fun w2 hf => hx.of hf (fun _ h => h.elim))
  clear hx hf02
  go_wp2_with fail
  go_loopw [44] (fun si wr => ∃ (j : Nat) (L : List (List Int)), j ≤ N ∧ si = .int .i64 j ∧ Held (fun _ => False) W wr (TwoR b r m br rr L L) ∧ Hid (L.length = nr)) (fun si _ => N - (intOf si).toNat)
  case atStart => exact ⟨0, _, by omega, rfl, h0, Lib.hid (by simp)⟩
  case round =>
    obtain ⟨j, L, hjN, rfl, hH, HO⟩ := hrel
    clear h0
    have hfW := hH.hf
    by_cases hlt : j < N
    · obtain ⟨a, ha⟩ : ∃ a, xs[j]? = some a := ⟨_, List.getElem?_eq_getElem (by have := HN.out; omega)⟩
      obtain ⟨g, off, n', cap', heq, hgl, c0, c1, c2⟩ := Rd.act (HR.out wr hfW) ha
      cases heq
      obtain ⟨kd, rw_, it⟩ := a
      dsimp only at c0 c1 c2
      clear ha
      obtain ⟨w2, hw2⟩ : ∃ w2, wr.alloc (.cells #[.int .i64 kd, .int .i64 rw_, .int .i64 it] 42) = w2 := ⟨_, rfl⟩
      obtain ⟨ba, hba⟩ : ∃ ba, wr.heap.size = ba := ⟨_, rfl⟩
      have oa : ob w2 ba = some (.cells #[.int .i64 kd, .int .i64 rw_, .int .i64 it] 42 (0, 0)) := by rw [← hw2, ← hba]; exact ob_new _ _
      have hf2 : Fr (fun _ => False) wr w2 := by rw [← hw2]; exact (Fr.refl _ wr).alloc _
      have hHP : Held (fun k => k = ba) W wr (TwoR b r m br rr L L) := hH.safe (fun k hk _ => by omega)
      have hH2 := hHP.keep TwoR.steady hf2
      have hP2 : ∀ k, k = ba → k < w2.heap.size := fun k hk => by rw [hk]; exact ob_lt oa
      have HG := Lib.hid (TwoR.good hH2)
      have d0 := cell_of_ob oa 0
      have d1 := cell_of_ob oa 1
      have d2 := cell_of_ob oa 2
      clear hH hHP hfW
      go_upto_block 2 with fail
      clear hw2 hba hf2 c0 c1 c2 hgl
      go_cut [11] (fun so wc => so = .bool true ∧ ∃ (L' : List (List Int)), Held (fun k => k = ba) W wc (TwoR b r m br rr L' L') ∧ ob wc ba = some (.cells #[.int .i64 kd, .int .i64 rw_, .int .i64 it] 42 (0, 0)) ∧ Hid (L'.length = nr))
      case first => as_aux_lemma =>
        by_cases hk0 : kd = 0
        · subst hk0
          have HPT := Lib.hid (show ∀ p, Calls Try.prog 12 #[.pointer (some ⟨b, 0, none⟩), .int .i64 rw_, .int .i64 it] (w2.drewN p) _ from fun p => xT (hH2.keep TwoR.steady (fr_drewN w2 p)) hP2 (fun S hS => pushI_rx hS rw_ it))
          have hS0 : w2.cell? ⟨ba, 1, none⟩ = some (.int .i64 rw_) ∧ w2.cell? ⟨ba, 2, none⟩ = some (.int .i64 it) := ⟨d1, d2⟩
          have HOA := Lib.hid (show ∀ p, ob (w2.drewN p) ba = some (.cells #[.int .i64 0, .int .i64 rw_, .int .i64 it] 42 (0, 0)) from fun p => oa)
          go_wp2_with fail
          go_region_held3 (fun w' => w'.cell? ⟨ba, 1, none⟩ = some (.int .i64 rw_) ∧ w'.cell? ⟨ba, 2, none⟩ = some (.int .i64 it)) (first | exact hS0 | assumption | go_keep)
            (first
              | (go_at_call 12; refine (HPT.out _).mono ?_; rintro e w3 ⟨rfl, hH3, hkp⟩; have oa3 := hkp _ _ rfl (HOA.out _); have hS3 := And.intro (cell_of_ob oa3 1) (cell_of_ob oa3 2); clear hkp)
              | (go_at_call 25; refine (yT hH3 (fun k hk => by rw [hk]; exact ob_lt oa3) (fun S hS => rpush_any hS HG.out rw_ it)).mono ?_; rintro e w4 ⟨rfl, hH4, hkp⟩; have oa4 := hkp _ _ rfl oa3; have hS4 := And.intro (cell_of_ob oa4 1) (cell_of_ob oa4 2); clear hkp))
          all_goals (
            clear hH2 hH3 oa3 d0 d1 d2 hS0
            go_wp2_with fail
            go_meet
            exact ⟨by simp, _, hH4, oa4, Lib.hid ((push_len _ _ _).trans HO.out)⟩)
        by_cases hk1 : kd = 1
        · subst hk1
          clear hk0
          have HPT := Lib.hid (show ∀ p, Calls Try.prog 20 #[.pointer (some ⟨b, 0, none⟩), .int .i64 rw_, .int .i64 it] (w2.drewN p) _ from fun p => xT (hH2.keep TwoR.steady (fr_drewN w2 p)) hP2 (fun S hS => frontI_rx hS rw_ it))
          have hS0 : w2.cell? ⟨ba, 1, none⟩ = some (.int .i64 rw_) ∧ w2.cell? ⟨ba, 2, none⟩ = some (.int .i64 it) := ⟨d1, d2⟩
          have HOA := Lib.hid (show ∀ p, ob (w2.drewN p) ba = some (.cells #[.int .i64 1, .int .i64 rw_, .int .i64 it] 42 (0, 0)) from fun p => oa)
          go_wp2_with fail
          go_region_held3 (fun w' => w'.cell? ⟨ba, 1, none⟩ = some (.int .i64 rw_) ∧ w'.cell? ⟨ba, 2, none⟩ = some (.int .i64 it)) (first | exact hS0 | assumption | go_keep)
            (first
              | (go_at_call 20; refine (HPT.out _).mono ?_; rintro e w3 ⟨rfl, hH3, hkp⟩; have oa3 := hkp _ _ rfl (HOA.out _); have hS3 := And.intro (cell_of_ob oa3 1) (cell_of_ob oa3 2); clear hkp)
              | (go_at_call 26; refine (yT hH3 (fun k hk => by rw [hk]; exact ob_lt oa3) (fun S hS => rfront_any hS HG.out rw_ it)).mono ?_; rintro e w4 ⟨rfl, hH4, hkp⟩; have oa4 := hkp _ _ rfl oa3; have hS4 := And.intro (cell_of_ob oa4 1) (cell_of_ob oa4 2); clear hkp))
          all_goals (
            clear hH2 hH3 oa3 d0 d1 d2 hS0
            go_wp2_with fail
            go_meet
            exact ⟨by simp, _, hH4, oa4, Lib.hid ((front_len _ _ _).trans HO.out)⟩)
        by_cases hk2 : kd = 2
        · subst hk2
          clear hk0 hk1
          have hsh : Calls Try.prog 19 #[.pointer (some ⟨b, 0, none⟩), .int .i64 rw_] w2 _ := xT (R := fun e => ∃ x ok, e = .returned (.tuple #[x, .bool ok]) ∧ FirstIsI (rowAtI L rw_) x ok) hH2 hP2 (fun S hS => (shiftI_rx hS rw_).mono fun e w' ⟨x, ok, he, hF, hR, hf⟩ => ⟨⟨x, ok, he, hF⟩, hR, hf⟩)
          go_wp2_with fail
          refine hsh.mono ?_
          rintro e w3 ⟨⟨x, ok, rfl, hF⟩, hH3, hkp⟩
          clear hsh
          obtain ⟨x, rfl⟩ := first_int hF
          have HF := Lib.hid hF
          have oa3 := hkp _ _ rfl oa
          have e1 := cell_of_ob oa3 1
          have hrs : Calls Try.prog 27 #[.pointer (some ⟨br, 0, none⟩), .int .i64 rw_] w3 _ := yT (R := fun e => e = .returned (.tuple #[.int .i64 x, .bool ok])) hH3 (fun k hk => by rw [hk]; exact ob_lt oa3) (fun S hS => (rshift_any hS HG.out rw_).mono fun e w' ⟨y, ok2, he, hF2, hR, hf⟩ => ⟨by obtain ⟨h1, h2⟩ := first_uniq HF.out hF2; rw [he, ← h1, ← h2], hR, hf⟩)
          clear hF hH2 hkp d0 d1 d2
          go_wp2_with fail
          refine hrs.mono ?_
          rintro e w4 ⟨rfl, hH4, hkp⟩
          have oa4 := hkp _ _ rfl oa3
          have hbb : (ok == ok) = true := by simp
          clear hrs hkp hH3 oa3
          go_wp2_with fail
          go_meet
          exact ⟨by simp, _, hH4, oa4, Lib.hid ((shift_len _ _).trans HO.out)⟩
        by_cases hk3 : kd = 3
        · subst hk3
          clear hk0 hk1 hk2
          have HPT := Lib.hid (show ∀ p, Calls Try.prog 17 #[.pointer (some ⟨b, 0, none⟩), .int .i64 it] (w2.drewN p) _ from fun p => xT (hH2.keep TwoR.steady (fr_drewN w2 p)) hP2 (fun S hS => removeI_rx hS it))
          have hS0 : w2.cell? ⟨ba, 2, none⟩ = some (.int .i64 it) := d2
          have HOA := Lib.hid (show ∀ p, ob (w2.drewN p) ba = some (.cells #[.int .i64 3, .int .i64 rw_, .int .i64 it] 42 (0, 0)) from fun p => oa)
          go_wp2_with fail
          go_region_held3 (fun w' => w'.cell? ⟨ba, 2, none⟩ = some (.int .i64 it)) (first | exact hS0 | assumption | go_keep)
            (first
              | (go_at_call 17; refine (HPT.out _).mono ?_; rintro e w3 ⟨rfl, hH3, hkp⟩; have oa3 := hkp _ _ rfl (HOA.out _); have hS3 := cell_of_ob oa3 2; clear hkp)
              | (go_at_call 28; refine (yT hH3 (fun k hk => by rw [hk]; exact ob_lt oa3) (fun S hS => rremove_any hS HG.out it)).mono ?_; rintro e w4 ⟨rfl, hH4, hkp⟩; have oa4 := hkp _ _ rfl oa3; have hS4 := cell_of_ob oa4 2; clear hkp))
          all_goals (
            clear hH2 hH3 oa3 d0 d1 d2 hS0
            go_wp2_with fail
            go_meet
            exact ⟨by simp, _, hH4, oa4, Lib.hid ((rem_len _ _).trans HO.out)⟩)
        by_cases hk4 : kd = 4
        · subst hk4
          clear hk0 hk1 hk2 hk3
          have HPT := Lib.hid (show ∀ p, Calls Try.prog 14 #[.pointer (some ⟨b, 0, none⟩), .int .i64 rw_] (w2.drewN p) _ from fun p => xT (hH2.keep TwoR.steady (fr_drewN w2 p)) hP2 (fun S hS => turnI_rx hS rw_))
          have hS0 : w2.cell? ⟨ba, 1, none⟩ = some (.int .i64 rw_) := d1
          have HOA := Lib.hid (show ∀ p, ob (w2.drewN p) ba = some (.cells #[.int .i64 4, .int .i64 rw_, .int .i64 it] 42 (0, 0)) from fun p => oa)
          go_wp2_with fail
          go_region_held3 (fun w' => w'.cell? ⟨ba, 1, none⟩ = some (.int .i64 rw_)) (first | exact hS0 | assumption | go_keep)
            (first
              | (go_at_call 14; refine (HPT.out _).mono ?_; rintro e w3 ⟨rfl, hH3, hkp⟩; have oa3 := hkp _ _ rfl (HOA.out _); have hS3 := cell_of_ob oa3 1; clear hkp)
              | (go_at_call 29; refine (yT hH3 (fun k hk => by rw [hk]; exact ob_lt oa3) (fun S hS => rturn_any hS HG.out rw_)).mono ?_; rintro e w4 ⟨rfl, hH4, hkp⟩; have oa4 := hkp _ _ rfl oa3; have hS4 := cell_of_ob oa4 1; clear hkp))
          all_goals (
            clear hH2 hH3 oa3 d0 d1 d2 hS0
            go_wp2_with fail
            go_meet
            exact ⟨by simp, _, hH4, oa4, Lib.hid ((turn_len _ _).trans HO.out)⟩)
        · go_wp2_with fail
          go_meet
          exact ⟨rfl, _, hH2, oa, HO⟩
      case rest =>
        obtain ⟨rfl, L', hHc, oac, HO'⟩ := hcut
        clear hH2 oa d0 d1 d2 HG hP2
        have HG := Lib.hid (TwoR.good hHc)
        have d1 := cell_of_ob oac 1
        have d2 := cell_of_ob oac 2
        obtain ⟨S1, hX1⟩ := TwoR.rx hHc
        obtain ⟨S2, hY1⟩ := TwoR.ry hHc
        have hwx := whereI_rx hX1 it
        have HWY := Lib.hid (show Calls Try.prog 30 #[.pointer (some ⟨br, 0, none⟩), .int .i64 it] wc (RWhere L' it wc) from by
          obtain ⟨vs, hR, _⟩ := hY1
          exact rwhere_any hR it (WhereIs.good HG.out))
        have hfx := firstI_rx hX1 rw_
        have HFY := Lib.hid (rfirst_rx hY1 HG.out rw_)
        go_wp2_with fail
        refine hwx.mono ?_
        rintro e w3 ⟨jj, ok, rfl, rfl, hWx⟩
        clear hwx
        have HWX := Lib.hid (show WhereIs L' it jj ok from hWx)
        have hwy : Calls Try.prog 30 #[.pointer (some ⟨br, 0, none⟩), .int .i64 it] w3 fun e w' => e = .returned (.tuple #[.int .i64 jj, .bool ok]) ∧ w' = w3 := HWY.out.mono fun e w' ⟨j2, ok2, he, hw, h2⟩ => by
          obtain ⟨Wm, hg⟩ := HG.out
          obtain ⟨h3, h4⟩ := where_uniq hg HWX.out h2
          exact ⟨by rw [he, ← h3, ← h4], hw⟩
        clear hWx HWY
        go_wp2_with fail
        refine hwy.mono ?_
        rintro e w4 ⟨rfl, rfl⟩
        clear hwy
        go_wp2_with fail
        refine hfx.mono ?_
        rintro e w5 ⟨x, ok5, rfl, hF5, hf5⟩
        clear hfx
        obtain ⟨x, rfl⟩ := first_int hF5
        have HF5 := Lib.hid hF5
        have hH5 := hHc.keep TwoR.steady hf5
        have oa5 := hf5.keep (fun h => h) oac
        have g1 := cell_of_ob oa5 1
        obtain ⟨S5, hY5⟩ := TwoR.ry hH5
        have hfy : Calls Try.prog 32 #[.pointer (some ⟨br, 0, none⟩), .int .i64 rw_] w5 fun e w' => e = .returned (.tuple #[.int .i64 x, .bool ok5]) ∧ w' = w5 := (rfirst_rx hY5 HG.out rw_).mono fun e w' ⟨y, ok2, he, h2, hw⟩ => by
          obtain ⟨h3, h4⟩ := first_uniq HF5.out h2
          exact ⟨by rw [he, ← h3, ← h4], hw⟩
        have hall : Calls Try.prog 33 #[.pointer (some ⟨br, 0, none⟩), .int .i64 rw_] w5 fun e w' => ∃ A N C, e = .returned (.slice A N C) ∧ SKI w5 (.slice A N C) (rowAtI L' rw_) ∧ w' = w5 := by
          obtain ⟨vs, hR, _⟩ := hY5
          exact (rall_any hR rw_).mono fun e w' ⟨A, N, C, he, hs, hw⟩ => ⟨A, N, C, he, hs, hw⟩
        clear hF5 HFY hHc hf5 d1 d2 hX1 hY1
        go_wp2_with fail
        refine hfy.mono ?_
        rintro e w6 ⟨rfl, rfl⟩
        clear hfy
        have HALL := Lib.hid hall
        go_wp2_with fail
        refine hall.mono ?_
        rintro e w7 ⟨A7, N7, C7, rfl, hs7, rfl⟩
        clear hall
        obtain ⟨l, hl⟩ : ∃ l, rowAtI L' rw_ = l := ⟨_, rfl⟩
        have HL := Lib.hid hl
        rw [hl] at hs7
        have hl5 : l.length ≤ 5000 := by
          have h1 := WhereIs.good HG.out
          rw [← hl]
          unfold rowAtI
          split
          · cases h2 : L'[rw_.toNat]? with
            | none => simp
            | some y => exact h1 y (List.mem_of_getElem? h2)
          · simp
        have hN7 : N7 = l.length := SKI.elen hs7
        have hN75 : N7 ≤ 5000 := by omega
        have HN7 := Lib.hid hN7
        have HL5 := Lib.hid hl5
        have HLEN := Lib.hid (show ∀ p, Calls Try.prog 18 #[.pointer (some ⟨b, 0, none⟩), .int .i64 rw_] (w7.drewN p) fun e w' => e = .returned (.int .i64 N7) ∧ w' = w7.drewN p from fun p => by
          obtain ⟨S, hX⟩ := TwoR.rx (hH5.keep TwoR.steady (fr_drewN w7 p))
          have := lenI_rx hX rw_
          rw [HL.out, ← HN7.out] at this
          exact this)
        have HAL := Lib.hid (show ∀ p, Calls Try.prog 33 #[.pointer (some ⟨br, 0, none⟩), .int .i64 rw_] (w7.drewN p) fun e w' => ∃ A C, e = .returned (.slice A N7 C) ∧ w' = w7.drewN p from fun p => by
          obtain ⟨S, vs, hR, _⟩ := TwoR.ry (hH5.keep TwoR.steady (fr_drewN w7 p))
          refine (rall_any hR rw_).mono ?_
          rintro e w' ⟨A, N, C, rfl, hs, rfl⟩
          have h1 := SKI.elen hs
          rw [HL.out, ← HN7.out] at h1
          obtain rfl : N = N7 := h1
          exact ⟨A, C, rfl, rfl⟩)
        have HLIST := Lib.hid (show ∀ p, Calls Try.prog 13 #[.pointer (some ⟨b, 0, none⟩), .int .i64 rw_, .int .i64 most] (w7.drewN p) fun e w' => ∃ A N C, e = .returned (.slice A N C) ∧ SKI w' (.slice A N C) (mostOf l most) ∧ Fr (fun _ => False) w7 w' from fun p => by
          obtain ⟨S, hX⟩ := TwoR.rx (hH5.keep TwoR.steady (fr_drewN w7 p))
          refine (list_any hX rw_ most).mono ?_
          rintro e w' ⟨v, rfl, hs, _, hf⟩
          rw [HL.out] at hs
          obtain ⟨A, N, C, rfl⟩ := hs.shape
          exact ⟨A, N, C, rfl, hs, (fr_drewN w7 p).step hf (fun _ h => h.elim)⟩)
        have hS0 : w7.cell? ⟨ba, 1, none⟩ = some (.int .i64 rw_) := g1
        have HOA := Lib.hid oa5
        have hb1 : ((jj : Int) != jj) = false := by simp
        have hb2 : (ok != ok) = false := by simp
        have hb3 : (x != x) = false := by simp
        have hb4 : (ok5 != ok5) = false := by simp
        have hb5 : ((N7 : Int) != N7) = false := by simp
        clear hl hl5 hN7 HALL oa5
        obtain ⟨cb, hcb⟩ : ∃ cb, cb = decide (0 ≤ most ∧ most < (N7 : Int)) := ⟨_, rfl⟩
        have HCB := Lib.hid hcb
        clear hcb
        go_upto_region 28 with fail
        go_cut [165] (fun s wc => s = .bool cb ∧ wc = w7)
        case first => as_aux_lemma =>
          clear hH5 hS0
          by_cases h1 : 0 ≤ most
          · by_cases h2 : most < (N7 : Int)
            · have h3 : cb = true := by rw [HCB.out]; exact decide_eq_true ⟨h1, h2⟩
              subst h3
              go_wp2
              go_meet
              exact ⟨rfl, rfl⟩
            · have h3 : cb = false := by rw [HCB.out]; exact decide_eq_false (fun h => h2 h.2)
              subst h3
              go_wp2
              go_meet
              exact ⟨rfl, rfl⟩
          · have h3 : cb = false := by rw [HCB.out]; exact decide_eq_false (fun h => h1 h.1)
            subst h3
            go_wp2
            go_meet
            exact ⟨rfl, rfl⟩
        case rest =>
          obtain ⟨rfl, hwc⟩ := hcut
          obtain rfl : w7 = _ := hwc.symm
          go_upto_if 165 with fail
          go_cut [24] (fun s wc => wc = w7 ∧ ∃ A2 N2 C2, s = .slice A2 N2 C2 ∧ Hid (∀ w', Fr (fun _ => False) w7 w' → RdG w' s (mostOf l most)))
          case first => as_aux_lemma =>
            clear hH5 hS0
            cases cb with
            | true =>
              have hcut := of_decide_eq_true HCB.out.symm
              obtain ⟨mm, rfl⟩ : ∃ mm : Nat, most = mm := ⟨most.toNat, by omega⟩
              have hmm : mm < N7 := by omega
              obtain ⟨y, hy⟩ : ∃ y, l[0]? = some y := ⟨_, List.getElem?_eq_getElem (by have := HN7.out; omega)⟩
              obtain ⟨g, off, n6, cap6, heq, hgl6, -, -, -⟩ := SKI.item hs7 hy
              cases heq
              have hcap : N7 ≤ C7 := by
                rcases hs7 with ⟨h, _⟩ | ⟨_, _, _, _, _, h, _, _, h2, _⟩
                · cases h
                · cases h; exact h2
              have HW := Lib.hid (show ∀ w', Fr (fun _ => False) w7 w' → RdG w' (.slice (some ⟨g, off, none⟩) mm C7) (mostOf l mm) from fun w' hf => by
                have h1 := rd_take (Sl.rd (Sl.fr hs7 hf (fun _ _ h => h))) (Nat.le_of_lt hmm)
                have h2 : mostOf l mm = l.take mm := by unfold mostOf; rw [if_pos ⟨by omega, by have := HN7.out; omega⟩]; simp
                rw [h2]
                show Rd w' 1 _ ((l.take mm).map _)
                rw [List.map_take]
                exact h1)
              clear hy hgl6 hs7 hcut
              go_wp2
              go_meet
              exact ⟨rfl, _, _, _, rfl, HW⟩
            | false =>
              have hcut := of_decide_eq_false HCB.out.symm
              have HW := Lib.hid (show ∀ w', Fr (fun _ => False) w7 w' → RdG w' (.slice A7 N7 C7) (mostOf l most) from fun w' hf => by
                have h1 := Sl.rd (Sl.fr hs7 hf (fun _ _ h => h))
                have h2 : mostOf l most = l := by unfold mostOf; rw [if_neg (by rw [← HN7.out]; exact hcut)]
                rw [h2]
                exact h1)
              clear hs7 hcut
              go_wp2
              go_meet
              exact ⟨rfl, _, _, _, rfl, HW⟩
          case rest =>
            obtain ⟨hwc, A2, N2, C2, rfl, HW⟩ := hcut
            obtain rfl : w7 = _ := hwc.symm
            have HMO := Lib.hid (show (mostOf l most).length ≤ 1000000 by unfold mostOf; have := HL5.out; split <;> (try rw [List.length_take]) <;> omega)
            clear hs7
            go_wp2_with fail
            go_region_held3 (fun w' => w'.cell? ⟨ba, 1, none⟩ = some (.int .i64 rw_)) (first | exact hS0 | assumption | go_keep)
              (first
                | (go_at_call 18; refine (HLEN.out _).mono ?_; rintro e wa ⟨rfl, rfl⟩)
                | (go_at_call 33; refine (HAL.out _).mono ?_; rintro e wa ⟨A8, C8, rfl, rfl⟩)
                | (go_at_call 13; refine (HLIST.out _).mono ?_; rintro e wa ⟨A9, N9, C9, rfl, hs9, hf9⟩; have hS9 := cell_of_ob (hf9.keep (fun h => h) HOA.out) 1)
                | (go_at_call 15; refine (intsEq_any (Sl.rd hs9) (HW.out _ hf9) ⟨_, _, _, rfl⟩ ⟨_, _, _, rfl⟩ (HMO.out)).mono ?_; rw [decide_eq_true rfl]; rintro e wb ⟨rfl, hf10⟩; have hS10 := cell_of_ob (hf10.keep (fun h => h) (hf9.keep (fun h => h) HOA.out)) 1))
            all_goals (
              have hend : Held (fun _ => False) W wb (TwoR b r m br rr L' L') := ((hH5.keep TwoR.steady hf9).keep TwoR.steady hf10).safe (fun k hk => hk.elim)
              clear hs9 hH5 hf9 hf10
              go_wp2
              go_roundw
              case rel => exact ⟨j + 1, _, by omega, by go_num, hend, HO'⟩
              case measure => simp [intOf]; omega)
    · obtain rfl : j = N := by omega
      obtain ⟨S9, hX9⟩ := TwoR.rx hH
      have hrows := rowsI_rx hX9
      rw [HO.out] at hrows
      clear hX9
      go_wp2_with fail
      refine hrows.mono ?_
      rintro e w8 ⟨rfl, rfl⟩
      clear hrows
      go_wp2_with fail
      refine (lives_any _).mono ?_
      rintro e w9 ⟨rfl, hf9⟩
      go_wp2
      go_ret
      exact ⟨rfl, hfW.step hf9 (fun _ h => h.elim)⟩
end Go.Proofs.Ytfcpodlbombimaa
