/- AnonCounts returns true: the walk. No conditions. -/
import Derived.Test.YtalinhpdibdlkaaAnPool
import Derived.Test.YtalinhpdibdlkaaFlat
import Derived.Deep.CutBlock
namespace Go.Proofs.Ytalinhpdibdlkaa
open Go.RowKit
set_option linter.unusedSimpArgs false
set_option linter.unusedVariables false
/-- What the loop keeps. -/
def CountsOK (n j : Nat) (last : Int) (free : List Int) (l : List (Int × A3)) (s : Int) : Prop := PoolI last free l ∧ l.length ≤ n ∧ last ≤ j ∧ free.length ≤ j ∧ s = refsS l
set_option maxRecDepth 100000 in
set_option maxHeartbeats 8000000 in
theorem counts_walk (W : World) (most : Int) (A : Option Addr) (N C : Nat) (xs : List I4) (hm0 : 0 ≤ most) (hm1 : most ≤ 18446744073709551615) (hx : Rd W 4 (.slice A N C) (xs.flatMap i4)) (hN : N = xs.length) :
    Calls Try.prog 4 #[.int .u64 most, .slice A N C] W fun e w' => e = .returned (.bool true) ∧ Fr (fun _ => False) W w' := by
  obtain ⟨n, hn, hn1⟩ : ∃ n : Nat, most % 30 = n ∧ n < 30 := ⟨(most % 30).toNat, by omega, by omega⟩
  have HN := Lib.hid hN
  clear hN
  have hnew := new_any n (by omega) (by omega) W
  go_enter Try.func4, Try.ntmps4
  go_wp2_with fail
  try simp only [hn]
  clear hn
  refine hnew.mono ?_
  rintro e w1 ⟨b, m, rfl, hX1, hf1, -, -⟩
  clear hnew
  by_cases hbig : 150 < N
  · go_wp2_with fail
    refine (lives_any w1).mono ?_
    rintro e w2 ⟨rfl, hf2⟩
    go_wp2
    go_ret
    exact ⟨rfl, hf1.step hf2 (fun _ h => h.elim)⟩
  · have hN3 : N ≤ 150 := by omega
    clear hbig
    have HR := Lib.hid (show ∀ w2, Fr (fun _ => False) W w2 → Rd w2 4 (.slice A N C) (xs.flatMap i4) from fun w2 hf => hx.of hf (fun _ h => h.elim))
    clear hx hf1
    go_wp2_with fail
    go_loopw [7, 37] (fun sn si wr => ∃ (j : Nat) (last s : Int) (free : List Int) (l : List (Int × A3)), j ≤ N ∧ si = .int .i64 j ∧ sn = .int .i64 s ∧ PoolX (fun k => k < W.heap.size) W wr b m n last free l ∧ Hid (CountsOK n j last free l s)) (fun _ si _ => N - (intOf si).toNat)
    case atStart => exact ⟨0, 0, 0, [], [], by omega, rfl, rfl, hX1, Lib.hid ⟨PoolI.start, by simp, by simp, by simp, rfl⟩⟩
    case round =>
      obtain ⟨j, last, s, free, l, hjN, rfl, rfl, hX, HO⟩ := hrel
      clear hX1
      have hfW : Fr (fun _ => False) W wr := hX.fr.mono (S2 := fun _ => False) (fun k hk h => h hk)
      by_cases hlt : j < N
      · obtain ⟨a, ha⟩ : ∃ a, xs[j]? = some a := ⟨_, List.getElem?_eq_getElem (by have := HN.out; omega)⟩
        obtain ⟨g, off, n', cap', heq, hgl, hcs⟩ := Rd.at i4_len (by omega) (HR.out wr hfW) ha
        cases heq
        obtain ⟨kd, id, va, vb⟩ := a
        have c0 : wr.cell? ⟨g, off + j * 4, none⟩ = some (.int .i64 kd) := hcs 0 _ rfl
        have c1 := hcs 1 _ rfl
        have c2 := hcs 2 _ rfl
        have c3 := hcs 3 _ rfl
        clear hcs ha
        obtain ⟨w2, hw2⟩ : ∃ w2, wr.alloc (.cells #[.int .i64 kd, .int .i64 id, .int .i64 va, .int .i64 vb] 38) = w2 := ⟨_, rfl⟩
        obtain ⟨ba, hba⟩ : ∃ ba, wr.heap.size = ba := ⟨_, rfl⟩
        have oa : ob w2 ba = some (.cells #[.int .i64 kd, .int .i64 id, .int .i64 va, .int .i64 vb] 38 (0, 0)) := by rw [← hw2, ← hba]; exact ob_new _ _
        have hf2 : Fr (fun _ => False) wr w2 := by rw [← hw2]; exact (Fr.refl _ wr).alloc _
        have hXe := hX.enter hf2 (fun k => k = ba) (fun k hk => by have := ob_lt oa; omega)
        have HLV := Lib.hid (show ∀ w3 last' free' l', PoolX (fun k => k < W.heap.size ∨ k = ba) w2 w3 b m n last' free' l' → PoolX (fun k => k < W.heap.size) W w3 b m n last' free' l' from fun w3 last' free' l' h => hX.leave hf2 h)
        have d0 := cell_of_ob oa 0
        have d1 := cell_of_ob oa 1
        have d2 := cell_of_ob oa 2
        have HP := Lib.hid HO.out.1
        have HLN := Lib.hid HO.out.2.1
        have hla1 : last ≤ 150 := by have := HO.out.2.2.1; omega
        have hla0 : 0 ≤ last := HP.out.last0
        have hfl : free.length ≤ 150 := by have := HO.out.2.2.2.1; omega
        have HS := Lib.hid HO.out.2.2.2.2
        have hsb : 0 ≤ s ∧ s ≤ 30000000 := by
          rw [HS.out, ← HP.out.sum]
          have h1 := sumR_bound HP.out.refsOK (l.map (·.1))
          have h2 := HLN.out
          rw [List.length_map] at h1
          unfold allR
          omega
        have hs0 := hsb.1
        have hs1 := hsb.2
        clear hsb hX hfW
        go_upto_block 2 with fail
        clear hw2 hba hf2 c0 c1 c2 c3 hgl
        go_cut [7] (fun sn wc => ∃ (last' s' : Int) (free' : List Int) (l' : List (Int × A3)), sn = .int .i64 s' ∧ PoolX (fun k => k < W.heap.size ∨ k = ba) w2 wc b m n last' free' l' ∧ Hid (CountsOK n (j + 1) last' free' l' s'))
        case first =>
          by_cases hk0 : kd = 0
          · subst hk0
            by_cases hroom : (l.length : Int) < n
            · have hmk := make_any hXe hroom (by omega) (by omega) va
              have HROOM := Lib.hid hroom
              clear hroom
              go_wp2_with fail
              refine hmk.mono ?_
              rintro e w3 ⟨nid, rfl, last', free', hM, hX3⟩
              clear hmk
              obtain ⟨g1, g2, g3, g4, g5, g6, g7, g8⟩ := HP.out.make hM hXe.heap va
              have hgt : Calls Try.prog 13 #[.pointer (some ⟨b, 0, none⟩), .int .i64 nid] w3 fun e w' => e = .returned (.tuple #[.agg #[.int .i64 1, .int .i64 va, .int .i64 (-1)], .bool true]) ∧ Fr (fun _ => False) w3 w' := by
                have := get_any (id' := nid) hX3
                rw [alGet_set, if_pos rfl] at this
                exact this
              have oa3 := hX3.safe rfl oa
              have HOK : Hid (CountsOK n (j + 1) last' free' (alSet l nid (1, va, -1)) (s + 1)) := Lib.hid ⟨g2, by have := HROOM.out; omega, by have := HO.out.2.2.1; omega, by have := HO.out.2.2.2.1; omega, by rw [g6, HS.out]⟩
              clear g1 g2 g3 g4 g5 g6 g7 g8 hM hXe d0 d1 d2
              go_wp2_with fail
              refine hgt.mono ?_
              rintro e w4 ⟨rfl, hf4⟩
              clear hgt
              have hX5 := hX3.keep (hf4.alloc (.cells #[.int .i64 1, .int .i64 va, .int .i64 (-1)] 32))
              have oa5 := (hf4.alloc (.cells #[.int .i64 1, .int .i64 va, .int .i64 (-1)] 32)).keep (fun h => h) oa3
              have e2 := cell_of_ob oa5 2
              have hbl := ob_lt (hf4.keep (fun h => h) oa3)
              clear hX3 oa3
              go_wp2_with fail
              go_meet
              exact ⟨_, _, _, _, rfl, hX5, HOK⟩
            · have hmf := make_full hXe (by omega) va
              clear hroom
              go_wp2_with fail
              refine hmf.mono ?_
              rintro e w3 ⟨rfl, hf3⟩
              clear hmf
              go_wp2_with fail
              go_meet
              exact ⟨_, _, _, _, rfl, hXe.keep hf3, Lib.hid ⟨HP.out, HLN.out, by have := HO.out.2.2.1; omega, by have := HO.out.2.2.2.1; omega, HS.out⟩⟩
          by_cases hk1 : kd = 1
          · subst hk1
            have hrf := ref_any (id' := id) hXe (by omega) (fun a hg => HP.out.refsOK _ _ hg) va
            clear hk0
            go_wp2_with fail
            refine hrf.mono ?_
            rintro e w3 ⟨⟨y1, y2, y3⟩, er, rfl, free', l', hc, hX3⟩
            clear hrf
            obtain ⟨q1, q2, q3, q4⟩ := HP.out.change hc (fun a hg he => by have := refRes_ok (HP.out.refsOK _ _ hg) he; omega)
            have oa3 := hX3.safe rfl oa
            simp only [a3]
            have hfy : Fr (fun _ => False) w3 (w3.alloc (.cells #[.int .i64 y1, .int .i64 y2, .int .i64 y3] 32)) := (Fr.refl _ w3).alloc _
            obtain ⟨w4, hw4⟩ : ∃ w4, w3.alloc (.cells #[.int .i64 y1, .int .i64 y2, .int .i64 y3] 32) = w4 := ⟨_, rfl⟩
            obtain ⟨by_, hby⟩ : ∃ k, w3.heap.size = k := ⟨_, rfl⟩
            rw [hw4] at hfy
            have oy : ob w4 by_ = some (.cells #[.int .i64 y1, .int .i64 y2, .int .i64 y3] 32 (0, 0)) := by rw [← hw4, ← hby]; exact ob_new _ _
            have oa4 := hfy.keep (fun h => h) oa3
            have hX4 := hX3.keep hfy
            have e2 := cell_of_ob oa4 2
            have e1 := cell_of_ob oa4 1
            have hba4 := ob_lt oa4
            have hby4 := ob_lt oy
            have hb3 : ba < w3.heap.size := ob_lt oa3
            clear hXe oa oa3 hX3 hc d0 d1 d2
            rcases q4 with ⟨a, hga, hr0, rfl, hy, -, hsum, hcs⟩ | ⟨rfl, rfl, -, her⟩
            · have hrr := refRes_ok (HP.out.refsOK _ _ hga) hr0
              rw [hrr.2.2.1] at hy hsum hcs
              have ha1 := HP.out.refs _ _ hga
              obtain ⟨a1, a2, a3'⟩ := a
              cases hy
              have hv0 := hrr.2.2.2.1
              have hv1 := hrr.2.2.2.2
              dsimp only at hv0 hv1 ha1 hsum hcs
              have HOK : Hid (CountsOK n (j + 1) last free' l' (s + va)) := Lib.hid ⟨q1, by have := HLN.out; omega, by have := HO.out.2.2.1; omega, by have := HO.out.2.2.2.1; omega, by rw [hsum, HS.out]; omega⟩
              have ha10 := ha1.1
              have ha11 := ha1.2
              clear q1 q2 q3 hsum hr0 hrr ha1
              rcases hcs with ⟨hz, hgn, -, -⟩ | ⟨hz, hgs, -, -⟩
              · have hgt : Calls Try.prog 13 #[.pointer (some ⟨b, 0, none⟩), .int .i64 id] w4 fun e w' => e = .returned (.tuple #[.agg #[.int .i64 0, .int .i64 0, .int .i64 0], .bool false]) ∧ Fr (fun _ => False) w4 w' := by
                  have := get_any (id' := id) hX4
                  rw [hgn] at this
                  exact this
                have HZ := Lib.hid hz
                clear hz hgn hga
                go_wp2_with fail
                try rw [hw4]
                refine hgt.mono ?_
                rintro e w5 ⟨rfl, hf5⟩
                clear hgt hw4
                have hX6 := hX4.keep (hf5.alloc (.cells #[.int .i64 0, .int .i64 0, .int .i64 0] 32))
                have oy5 := hf5.keep (fun h => h) oy
                have y0 := cell_of_ob oy5 0
                have hbl := ob_lt oy5
                have hz1 : ¬ (0 : Int) < a1 + va := by have := HZ.out; omega
                clear hX4 hfy oy
                go_wp2_with fail
                go_meet
                exact ⟨_, _, _, _, rfl, hX6, HOK⟩
              · have hgt : Calls Try.prog 13 #[.pointer (some ⟨b, 0, none⟩), .int .i64 id] w4 fun e w' => e = .returned (.tuple #[.agg #[.int .i64 (a1 + va), .int .i64 y2, .int .i64 y3], .bool true]) ∧ Fr (fun _ => False) w4 w' := by
                  have := get_any (id' := id) hX4
                  rw [hgs] at this
                  exact this
                have hz1 : (0 : Int) < a1 + va := by omega
                clear hz hgs hga
                go_wp2_with fail
                try rw [hw4]
                refine hgt.mono ?_
                rintro e w5 ⟨rfl, hf5⟩
                clear hgt hw4
                have hX6 := hX4.keep (hf5.alloc (.cells #[.int .i64 (a1 + va), .int .i64 y2, .int .i64 y3] 32))
                have oy5 := hf5.keep (fun h => h) oy
                have y0 := cell_of_ob oy5 0
                have hbl := ob_lt oy5
                clear hX4 hfy oy
                go_wp2_with fail
                go_meet
                exact ⟨_, _, _, _, rfl, hX6, HOK⟩
            · have her2 : er ≠ 0 := by
                rcases her with ⟨_, rfl⟩ | ⟨a, _, h1, h2⟩
                · decide
                · rw [h2]; exact h1
              have hb : (er == 0) = false := by simp [her2]
              clear her her2 q1 q2 q3
              go_wp2_with fail
              go_meet
              exact ⟨_, _, _, _, rfl, hX4, Lib.hid ⟨HP.out, HLN.out, by have := HO.out.2.2.1; omega, by have := HO.out.2.2.2.1; omega, HS.out⟩⟩
          · go_wp2_with fail
            go_meet
            exact ⟨_, _, _, _, rfl, hXe, Lib.hid ⟨HP.out, HLN.out, by have := HO.out.2.2.1; omega, by have := HO.out.2.2.2.1; omega, HS.out⟩⟩
        case rest =>
          obtain ⟨last', s', free', l', rfl, hXc, HO'⟩ := hcut
          have hX' := HLV.out _ _ _ _ hXc
          have hlen := len_any hX'
          have hsum := sum_any hX' (HO'.out.1.keysOK (by have := HO'.out.2.2.1; omega) (by have := HO'.out.2.1; omega)) HO'.out.1.refsOK
          rw [HO'.out.1.sum, ← HO'.out.2.2.2.2] at hsum
          clear hXc hXe oa d0 d1 d2
          obtain ⟨L, hL⟩ : ∃ L, l'.length = L := ⟨_, rfl⟩
          have hL1 : L ≤ n := by rw [← hL]; exact HO'.out.2.1
          have hL2 : (L : Int) ≤ s' := by rw [← hL, HO'.out.2.2.2.2]; exact HO'.out.1.lenLe
          have HL := Lib.hid hL
          clear hL hlen
          go_wp2_with fail
          refine hsum.mono ?_
          rintro e w7 ⟨rfl, hf7⟩
          clear hsum
          have hX7 := hX'.keep hf7
          have hlen := len_any hX7
          rw [HL.out] at hlen
          clear hX'
          go_wp2_with fail
          refine hlen.mono ?_
          rintro e w8 ⟨rfl, rfl⟩
          go_wp2_with fail
          refine hlen.mono ?_
          rintro e w8 ⟨rfl, rfl⟩
          clear hlen
          go_wp2
          go_roundw
          case rel => exact ⟨j + 1, _, _, _, _, by omega, by go_num, rfl, hX7, HO'⟩
          case measure => simp [intOf]; omega
      · obtain rfl : j = N := by omega
        go_wp2_with fail
        refine (lives_any _).mono ?_
        rintro e w9 ⟨rfl, hf9⟩
        go_wp2
        go_ret
        exact ⟨rfl, hfW.step hf9 (fun _ h => h.elim)⟩
end Go.Proofs.Ytalinhpdibdlkaa
