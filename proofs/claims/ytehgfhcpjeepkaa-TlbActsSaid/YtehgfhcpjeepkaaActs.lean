/- TlbActs: whatever is done to a table: what is kept, from the eldest on. No conditions. -/
import Derived.Test.YtehgfhcpjeepkaaBoth
import Derived.Deep.RegionHeld3
import Derived.Deep.QuietTactic
import Derived.BigQuiet
namespace Go.Proofs.Ytehgfhcpjeepkaa
open Go.RowKit
set_option linter.unusedSimpArgs false
set_option linter.unusedVariables false
theorem tabAt_len (n : Int) (hn : 0 ≤ n) (acts : List ActV) : ∀ i, ((tabAt n acts i).length : Int) ≤ n
  | 0 => by simpa [tabAt] using hn
  | i + 1 => by
    cases h : acts[i]? with
    | none =>
      have : tabAt n acts (i + 1) = tabAt n acts i := by unfold tabAt; rw [List.take_add_one, h]; simp
      rw [this]; exact tabAt_len n hn acts i
    | some a => rw [tabAt_succ n acts i a h]; exact tstep_len n hn _ a (tabAt_len n hn acts i)
set_option maxRecDepth 100000 in
set_option maxHeartbeats 4000000 in
theorem acts_walk (w : World) (n : Int) (A : Option Addr) (N C : Nat) (xs : List ActV) (hxs : Rd w 5 (.slice A N C) (xs.flatMap actS)) (hN : N = xs.length) :
    Calls Try.prog 5 #[.int .i64 n, .slice A N C] w fun e w' => e = .returned (.bool true) ∧ Fr (fun _ => False) w w' := by
  have HN := Lib.hid hN
  clear hN
  go_enter Try.func5, Try.ntmps5
  go_wp2_with fail
  by_cases hout : n < 0 ∨ 1024 < n
  · refine (new_nil n hout w).mono ?_
    rintro e w1 ⟨rfl, rfl⟩
    go_wp2_with fail
    refine (rnew_nil n hout w).mono ?_
    rintro e w1 ⟨rfl, rfl⟩
    clear hout
    go_wp2_with fail
    refine (lives_any _).mono ?_
    rintro e w7 ⟨rfl, hf7⟩
    go_wp2
    go_ret
    exact ⟨rfl, hf7⟩
  have hn0 : 0 ≤ n := by omega
  have hn1 : n ≤ 1024 := by omega
  clear hout
  refine (new_any n hn0 hn1 w).mono ?_
  rintro e w1 ⟨b, m, rfl, hT, hf1, hb, hm⟩
  go_wp2_with fail
  refine (rnew_any n hn0 hn1 w1).mono ?_
  rintro e w2 ⟨br, rfl, hR, hf2, hbr⟩
  have hbl := hT.lt
  have hml := hT.mlt
  have hB : Both (fun k => k < w.heap.size) w w2 b m br n [] [] := by
    refine ⟨_, _, hT.fr hf2 (fun _ _ h => h), hR, fun k hk hr => ?_, fun k hk hp => ?_, fun k hk hp => ?_, (hf1.also hf2).mono' (fun _ h => h.elim), fun k h => h⟩
    · rcases hk with rfl | rfl | hk
      · rcases hr with h | h
        · omega
        · cases h
      · rcases hr with h | h
        · omega
        · cases h
      · cases hk
    · rcases hk with rfl | rfl | hk
      · omega
      · omega
      · cases hk
    · have := hf1.size
      rcases hk with rfl | hk
      · omega
      · cases hk
  clear hT hR hf2 hf1 hbr hbl hml
  by_cases h2 : 200 < N
  · go_wp2_with fail
    refine (lives_any _).mono ?_
    rintro e w7 ⟨rfl, hf7⟩
    go_wp2
    go_ret
    obtain ⟨_, _, _, _, _, _, _, hfr, _⟩ := hB
    exact ⟨rfl, (hfr.mono (S2 := fun _ => False) (fun k hk h => h hk)).also hf7⟩
  have hN2 : N ≤ 200 := by omega
  go_wp2_with fail
  go_loopw [36] (fun i wr => ∃ j : Nat, j ≤ N ∧ i = .int .i64 j ∧ Both (fun k => k < w.heap.size) w wr b m br n (tabAt n xs j) (tabAt n xs j)) (fun i _ => N - (intOf i).toNat)
  case atStart => exact ⟨0, by omega, rfl, by simpa [tabAt] using hB⟩
  case round =>
    obtain ⟨i, hi, rfl, hx⟩ := hrel
    have hall : Fr (fun _ => False) w wr := by
      obtain ⟨_, _, _, _, _, _, _, hfr, _⟩ := hx
      exact hfr.mono (fun k hk h => h hk)
    by_cases hlt : i < N
    · obtain ⟨a, ha⟩ : ∃ a, xs[i]? = some a := ⟨_, List.getElem?_eq_getElem (by have := HN.out; omega)⟩
      obtain ⟨g, off, n', cap', heq, hgl, c0, c1, c2, c3, c4⟩ := (hxs.of hall (fun _ h => h.elim)).act ha
      cases heq
      have hgl1 : g < wr.heap.size + 1 := by omega
      have HL := Lib.hid (tabAt_succ n xs i a ha)
      have hln := Lib.hid (tabAt_len n hn0 xs i)
      have hnd := Lib.hid (tabAt_nodup n xs i)
      have hln2 := Lib.hid (tabAt_len n hn0 xs (i + 1))
      have hnd2 := Lib.hid (tabAt_nodup n xs (i + 1))
      obtain ⟨l0, hl0⟩ : ∃ l0, l0 = tabAt n xs i := ⟨_, rfl⟩
      obtain ⟨l, hl⟩ : ∃ l, l = tabAt n xs (i + 1) := ⟨_, rfl⟩
      rw [← hl0] at hln hnd hx HL
      rw [← hl] at hln2 hnd2 HL
      have HLX := Lib.hid hl
      have hlen0 : l0.length ≤ 1024 := by have := hln.out; omega
      have hlen1 : l.length ≤ 1024 := by have := hln2.out; omega
      clear ha hl hl0
      go_upto_block 2 with fail
      obtain ⟨W, hW⟩ : ∃ W, W = (wr.alloc (.cells #[.int .i64 a.kind, .int .i64 a.k.1, .int .i64 a.k.2, .int .i64 a.e.1, .int .i64 a.e.2] 41)).alloc (.cells #[.int .i64 a.k.1, .int .i64 a.k.2] 42) := ⟨_, rfl⟩
      obtain ⟨ba, hba⟩ : ∃ ba, ba = wr.heap.size := ⟨_, rfl⟩
      rw [← hW, ← hba]
      have oa : ob W ba = some (.cells #[.int .i64 a.kind, .int .i64 a.k.1, .int .i64 a.k.2, .int .i64 a.e.1, .int .i64 a.e.2] 41 (0, 0)) := by
        rw [hW, hba, ob_alloc _ _ _ (by simp only [World.size_alloc]; omega), ob_new]
      have ok : ob W (ba + 1) = some (.cells #[.int .i64 a.k.1, .int .i64 a.k.2] 42 (0, 0)) := by
        rw [hW, hba, ob_newAt _ _ _ (by simp)]
      have hWs : W.heap.size = ba + 2 := by rw [hW, hba]; simp
      have hwba : w.heap.size ≤ ba := by rw [hba]; exact hx.size
      have hfW : Fr (fun _ => False) wr W := by rw [hW]; exact ((Fr.refl _ _).alloc _).alloc _
      have hBW : Both (fun k => k < w.heap.size ∨ k = ba ∨ k = ba + 1) W W b m br n l0 l0 := by
        obtain ⟨kv, lv, h1, h2, h3, h4, h5, h6, h7⟩ := hx
        refine ⟨kv, lv, h1.fr hfW (fun _ _ h => h), h2.fr hfW (fun _ _ h => h), h3, fun k hk hp => ?_, fun k hk hp => ?_, Fr.refl _ _, fun k hp => by omega⟩
        · have := h1.slt hk; have := h4 k hk; omega
        · have := h2.slt hk; have := h5 k hk; omega
      have hback : ∀ w' l', Both (fun k => k < w.heap.size ∨ k = ba ∨ k = ba + 1) W w' b m br n l' l' → Both (fun k => k < w.heap.size) w w' b m br n l' l' := by
        intro w' l' hq
        obtain ⟨kv, lv, h1, h2, h3, h4, h5, h6, h7⟩ := hq
        refine ⟨kv, lv, h1, h2, h3, fun k hk hp => h4 k hk (.inl hp), fun k hk hp => h5 k hk (.inl hp), ?_, fun k h => h⟩
        exact ((hall.also hfW).mono' (S2 := fun k => ¬ k < w.heap.size) (fun _ h => h.elim)).step h6 (fun k hk => .inl (fun hp => hk (.inl hp)))
      have HBK := Lib.hid hback
      clear hW hx hba hgl hgl1 c0 c1 c2 c3 c4 hback
      have hab : ba < W.heap.size := by omega
      have hab1 : ba + 1 < W.heap.size := by omega
      go_cut [9, 43] (fun s _ wc => s = .bool true ∧ Both (fun k => k < w.heap.size ∨ k = ba ∨ k = ba + 1) W wc b m br n l l)
      case first =>
        have d0 : W.cell? ⟨ba, 0, none⟩ = some (.int .i64 a.kind) := cell_of_ob oa 0
        have d1 : W.cell? ⟨ba, 1, none⟩ = some (.int .i64 a.k.1) := cell_of_ob oa 1
        have d2 : W.cell? ⟨ba, 2, none⟩ = some (.int .i64 a.k.2) := cell_of_ob oa 2
        have d3 : W.cell? ⟨ba, 3, none⟩ = some (.int .i64 a.e.1) := cell_of_ob oa 3
        have d4 : W.cell? ⟨ba, 4, none⟩ = some (.int .i64 a.e.2) := cell_of_ob oa 4
        have e0 : W.cell? ⟨ba + 1, 0, none⟩ = some (.int .i64 a.k.1) := cell_of_ob ok 0
        have e1 : W.cell? ⟨ba + 1, 1, none⟩ = some (.int .i64 a.k.2) := cell_of_ob ok 1
        by_cases k0 : a.kind = 0
        · go_wp2_with fail
          refine (putB hBW hnd.out (by omega) a.k a.e).mono ?_
          rintro e w2 ⟨rfl, hB2⟩
          have oa2 := hB2.keep (.inr (.inl rfl)) oa
          have ok2 := hB2.keep (.inr (.inr rfl)) ok
          have f3 : w2.cell? ⟨ba, 3, none⟩ = some (.int .i64 a.e.1) := cell_of_ob oa2 3
          have f4 : w2.cell? ⟨ba, 4, none⟩ = some (.int .i64 a.e.2) := cell_of_ob oa2 4
          have g0 : w2.cell? ⟨ba + 1, 0, none⟩ = some (.int .i64 a.k.1) := cell_of_ob ok2 0
          have g1 : w2.cell? ⟨ba + 1, 1, none⟩ = some (.int .i64 a.k.2) := cell_of_ob ok2 1
          have s2 := ob_lt oa2
          have s3 := ob_lt ok2
          go_wp2_with fail
          refine (rputB hB2 hln.out (by omega) a.k a.e).mono ?_
          rintro e w3 ⟨rfl, hB3⟩
          go_wp2
          go_meet
          exact ⟨rfl, by rw [HL.out, tstep, if_pos k0]; exact hB3⟩
        by_cases k1 : a.kind = 1
        · go_wp2_with fail
          go_region_held3 (fun w' => w'.cell? ⟨ba, 1, none⟩ = some (.int .i64 a.k.1) ∧ w'.cell? ⟨ba, 2, none⟩ = some (.int .i64 a.k.2) ∧ w'.cell? ⟨ba + 1, 0, none⟩ = some (.int .i64 a.k.1) ∧ w'.cell? ⟨ba + 1, 1, none⟩ = some (.int .i64 a.k.2)) (first | exact ⟨d1, d2, e0, e1⟩ | assumption | go_keep)
            (first
              | (go_at_call_of 17 (Value.pointer (some ⟨b, 0, none⟩)); refine (flushB (hBW.fr (Fr.refl _ _).drew) hnd.out (by omega) a.k).mono ?_; rintro e w2 ⟨rfl, hB2⟩; have oa2 := hB2.keep (.inr (.inl rfl)) oa; have ok2 := hB2.keep (.inr (.inr rfl)) ok; have hS2 := And.intro (cell_of_ob oa2 1) (And.intro (cell_of_ob oa2 2) (And.intro (cell_of_ob ok2 0) (cell_of_ob ok2 1))))
              | (go_at_call_of 18 (Value.pointer (some ⟨br, 0, none⟩)); refine (rflushB hB2 (by omega) a.k).mono ?_; rintro e w3 ⟨rfl, hB3⟩; have oa3 := hB3.keep (.inr (.inl rfl)) oa; have ok3 := hB3.keep (.inr (.inr rfl)) ok; have hS3 := And.intro (cell_of_ob oa3 1) (And.intro (cell_of_ob oa3 2) (And.intro (cell_of_ob ok3 0) (cell_of_ob ok3 1)))))
          all_goals (go_wp2_with fail; go_meet; exact ⟨rfl, by rw [HL.out, tstep, if_neg k0, if_pos k1]; exact hB3⟩)
        by_cases k2 : a.kind = 2
        · go_wp2_with fail
          go_region_held3 (fun w' => w'.cell? ⟨ba, 1, none⟩ = some (.int .i64 a.k.1)) (first | exact d1 | assumption | go_keep)
            (first
              | (go_at_call_of 11 (Value.pointer (some ⟨b, 0, none⟩)); refine (flushAsidB (hBW.fr (Fr.refl _ _).drew) hnd.out (by omega) a.k.1).mono ?_; rintro e w2 ⟨rfl, hB2⟩; have oa2 := hB2.keep (.inr (.inl rfl)) oa; have hS2 := (cell_of_ob oa2 1))
              | (go_at_call_of 19 (Value.pointer (some ⟨br, 0, none⟩)); refine (rflushAsidB hB2 (by omega) a.k.1).mono ?_; rintro e w3 ⟨rfl, hB3⟩; have oa3 := hB3.keep (.inr (.inl rfl)) oa; have hS3 := (cell_of_ob oa3 1)))
          all_goals (go_wp2_with fail; go_meet; exact ⟨rfl, by rw [HL.out, tstep, if_neg k0, if_neg k1, if_pos k2]; exact hB3⟩)
        by_cases k3 : a.kind = 3
        · go_wp2_with fail
          refine (flushAllB hBW hnd.out (by omega)).mono ?_
          rintro e w2 ⟨rfl, hB2⟩
          go_wp2_with fail
          refine (rflushAllB hB2 (by omega)).mono ?_
          rintro e w3 ⟨rfl, hB3⟩
          go_wp2
          go_meet
          exact ⟨rfl, by rw [HL.out, tstep, if_neg k0, if_neg k1, if_neg k2, if_pos k3]; exact hB3⟩
        · go_wp2_with fail
          go_meet
          exact ⟨rfl, by rw [HL.out, tstep, if_neg k0, if_neg k1, if_neg k2, if_neg k3]; exact hBW⟩
      case rest =>
        obtain ⟨rfl, hBc⟩ := hcut
        have oac := hBc.keep (.inr (.inl rfl)) oa
        have okc := hBc.keep (.inr (.inr rfl)) ok
        have d1 : wc.cell? ⟨ba, 1, none⟩ = some (.int .i64 a.k.1) := cell_of_ob oac 1
        have d2 : wc.cell? ⟨ba, 2, none⟩ = some (.int .i64 a.k.2) := cell_of_ob oac 2
        have sc := ob_lt oac
        have sc1 := ob_lt okc
        obtain ⟨r, hr⟩ : ∃ r, r = (alGet l a.k).getD (0, 0) := ⟨_, rfl⟩
        obtain ⟨q, hq⟩ : ∃ q, q = (alGet l a.k).isSome := ⟨_, rfl⟩
        have hfind := findB hBc a.k
        rw [← hr, ← hq] at hfind
        go_wp2_with fail
        refine hfind.mono ?_
        rintro e w3 ⟨rfl, hf3⟩
        have hB3 := hBc.fr hf3
        have ok3 := hf3.keep (fun h => h) okc
        have g0 : w3.cell? ⟨ba + 1, 0, none⟩ = some (.int .i64 a.k.1) := cell_of_ob ok3 0
        have g1 : w3.cell? ⟨ba + 1, 1, none⟩ = some (.int .i64 a.k.2) := cell_of_ob ok3 1
        have s3 := ob_lt ok3
        have hf4 : Fr (fun _ => False) w3 (w3.alloc (.cells #[.int .i64 r.1, .int .i64 r.2] 29)) := (Fr.refl _ _).alloc _
        have hfind2 := rfindB (hB3.fr hf4) (by omega) a.k
        rw [← hr, ← hq] at hfind2
        clear hfind hr hq d1 d2
        simp only [Go.Proofs.Ytehgfhcpjeepkaa.k2]
        simp only [Go.Proofs.Ytehgfhcpjeepkaa.k2] at hfind2
        go_wp2_with fail
        refine hfind2.mono ?_
        rintro e w5 ⟨rfl, hf5⟩
        have hB5 := (hB3.fr hf4).fr hf5
        have oe5 := hf5.keep (fun h => h) (ob_new w3 (.cells #[.int .i64 r.1, .int .i64 r.2] 29))
        obtain ⟨be, hbe⟩ : ∃ be, be = w3.heap.size := ⟨_, rfl⟩
        rw [← hbe] at oe5
        rw [← hbe]
        clear hfind2 g0 g1 hbe
        have hf6 : Fr (fun _ => False) w5 (w5.alloc (.cells #[.int .i64 r.1, .int .i64 r.2] 29)) := (Fr.refl _ _).alloc _
        have od6 := ob_new w5 (.cells #[.int .i64 r.1, .int .i64 r.2] 29)
        have oe6 := hf6.keep (fun h => h) oe5
        go_wp2_with fail
        refine (keysB (hB5.fr hf6) (by omega)).mono ?_
        rintro e w7 ⟨v', rfl, hsl, hf7⟩
        have hB7 := (hB5.fr hf6).fr hf7
        have od7 := hf7.keep (fun h => h) od6
        have oe7 := hf7.keep (fun h => h) oe6
        obtain ⟨bd, hbd⟩ : ∃ bd, bd = w5.heap.size := ⟨_, rfl⟩
        rw [← hbd] at od7
        rw [← hbd]
        clear hbd od6 oe6 hf6 hB5 hB3 oe5 hf4
        have hL := hsl.len
        rw [len_flat, List.length_map] at hL
        obtain ⟨A', L, C', rfl⟩ := hsl.shape
        simp only [sliceLen] at hL
        have hL1 : L = l.length := by omega
        obtain ⟨kv, lv, t1, t2, _⟩ := id hB7
        obtain ⟨A2, N2, C2, rfl, hN2'⟩ := t2.form
        obtain rfl : N2 = L := by omega
        have r1 : w7.cell? ⟨br, 1, none⟩ = some (.slice A2 N2 C2) := cell_of_ob t2.blk 1
        have hbr7 := t2.lt
        have x0 : w7.cell? ⟨be, 0, none⟩ = some (.int .i64 r.1) := cell_of_ob oe7 0
        have x1 : w7.cell? ⟨be, 1, none⟩ = some (.int .i64 r.2) := cell_of_ob oe7 1
        have y0 : w7.cell? ⟨bd, 0, none⟩ = some (.int .i64 r.1) := cell_of_ob od7 0
        have y1 : w7.cell? ⟨bd, 1, none⟩ = some (.int .i64 r.2) := cell_of_ob od7 1
        have hkr : k2eq r.1 r.2 r.1 r.2 = true := by simp [k2eq]
        have hLI : (l.length : Int) = N2 := by omega
        have hN3 : N2 ≤ 1024 := by omega
        have HL1 := Lib.hid hL1
        have hfd : ∀ p, Fr (fun _ => False) w7 (w7.drewN p) := fun p => ⟨rfl, rfl, rfl, Nat.le_refl _, fun _ _ _ => rfl⟩
        have hlen : ∀ p, Calls Try.prog 12 #[.pointer (some ⟨b, 0, none⟩)] (w7.drewN p) fun e w' => e = .returned (.int .i64 N2) ∧ w' = w7.drewN p := fun p => by
          refine (lenB (hB7.fr (hfd p))).mono ?_
          rintro e w' ⟨rfl, rfl⟩
          exact ⟨by rw [hLI], rfl⟩
        have HLEN := Lib.hid hlen
        have HFD := Lib.hid hfd
        clear hL hL1 hN2' hLI hlen hfd
        go_wp2_with fail
        go_quiet ((go_at_call 12; exact Calls.quiet_of_same (HLEN.out _)))
        obtain ⟨w8, hw8⟩ : ∃ w8, w8 = w7.drewN nq := ⟨_, rfl⟩
        have hf8 : Fr (fun _ => False) w7 w8 := by rw [hw8]; exact HFD.out nq
        rw [← hw8]
        have t8 := t2.fr hf8 (fun _ _ h => h)
        have hsl8 := hsl.fr hf8 (fun _ _ h => h)
        have hB8 := hB7.fr hf8
        clear hw8 r1 x0 x1 y0 y1 hbr7
        go_wp2_with fail
        go_loopw [136] (fun v wr => ∃ j : Nat, j ≤ N2 ∧ v = .int .i64 j ∧ Fr (fun _ => False) w8 wr) (fun v _ => N2 - (intOf v).toNat)
        case atStart => exact ⟨0, by omega, rfl, Fr.refl _ _⟩
        case round =>
          obtain ⟨j, hj, rfl, hfj⟩ := hrel
          by_cases hjL : j < N2
          · obtain ⟨y, hy⟩ : ∃ y, l[j]? = some y := ⟨_, List.getElem?_eq_getElem (by have := HL1.out; omega)⟩
            have t9 := t8.fr hfj (fun _ _ h => h)
            obtain ⟨g2, off2, n2, cap2, heq, hgl2, hz2, z0, z1, z2, z3⟩ := t9.row.ent hy
            cases heq
            obtain ⟨hg0, hg1⟩ := flat_get (l.map (·.1)) j y.1 (by simp [hy])
            obtain ⟨g3, off3, n3, cap3, heq, hgl3, hcs, _, _⟩ := (hsl8.fr hfj (fun _ _ h => h)).form (by intro e; rw [e] at hg0; cases hg0)
            cases heq
            have hc0 := hcs _ _ hg0
            have hc1 := hcs _ _ hg1
            rw [← Nat.add_assoc] at hc1
            have q1 : wr.cell? ⟨br, 1, none⟩ = some (.slice (some ⟨g2, off2, none⟩) N2 C2) := cell_of_ob t9.blk 1
            have hbr9 := t9.lt
            have hyy : k2eq y.1.1 y.1.2 y.1.1 y.1.2 = true := by simp [k2eq]
            clear hy hg0 hg1 hcs hz2 z2 z3
            go_wp2_with fail
            refine wp_region_canon [0, 1, 2, 4, 5, 6, 8, 3, 7, 9, 10, 11, 12] (by kernel_rfl) (by kernel_rfl) (fun K hK => ?_)
            simp only [List.map_cons, List.map_nil, List.getD_cons_succ, List.getD_cons_zero]
            go_wp2
            refine hK _ _ (by kernel_rfl) ?_
            clear hK K
            go_wp2
            go_roundw
            case rel => exact ⟨j + 1, by omega, by go_num, hfj.drew⟩
            case measure => simp [intOf]; omega
          · go_wp2
            go_roundw
            case rel => exact ⟨i + 1, by omega, by go_num, by rw [← HLX.out]; exact HBK.out _ _ (hB8.fr hfj)⟩
            case measure => simp [intOf]; omega
    · go_wp2_with fail
      refine (lives_any _).mono ?_
      rintro e w7 ⟨rfl, hf7⟩
      go_wp2
      go_ret
      exact ⟨rfl, hall.also hf7⟩
end Go.Proofs.Ytehgfhcpjeepkaa
