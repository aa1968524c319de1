/- AnonActs returns true: the walk. No conditions. -/
import Derived.Test.YtalinhpdibdlkaaAnRel
import Derived.Test.YtalinhpdibdlkaaAnPlaces
import Derived.Deep.CutBlock
import Derived.Deep.RegionHeld3
namespace Go.Proofs.Ytalinhpdibdlkaa
open Go.RowKit
set_option linter.unusedSimpArgs false
set_option linter.unusedVariables false
theorem eqin_ranon (a b c x y z : Int) (w : World) : (Op.equalIn 10000 50 (.agg #[.int .i64 a, .int .i64 b, .int .i64 c]) (.agg #[.int .i64 x, .int .i64 y, .int .i64 z])).run Try.prog w = .ok (a3eq a b c x y z) w := by
  unfold a3eq
  have u3 := Try.underlying3
  have a3 := Try.isAgg3
  have z3 := Try.sizeOf3
  have hS : Try.prog.underlying 50 = some (.struct (Try.prog.fieldsOf 50)) := by kernel_rfl
  rw [show (10000 : Nat) = 9999 + 1 from rfl, run_equalIn_agg w 9999 50 _ _ hS (by kernel_rfl)]
  simp only [Program.fieldsOf, Try.underlying50]
  go_simp
  by_cases h1 : a = x <;> by_cases h2 : b = y <;> by_cases h3 : c = z <;> simp [h1, h2, h3]
def eqRAnon (a b c x y z : Int) : Sem Value := binOp .eql 50 (.agg #[.int .i64 a, .int .i64 b, .int .i64 c]) (.agg #[.int .i64 x, .int .i64 y, .int .i64 z])
@[go_sem high] theorem to_eqRAnon (a b c x y z : Int) : binOp .eql 50 (.agg #[.int .i64 a, .int .i64 b, .int .i64 c]) (.agg #[.int .i64 x, .int .i64 y, .int .i64 z]) = eqRAnon a b c x y z := rfl
@[go_sem] theorem run_eqRAnon (a b c x y z : Int) (w : World) : (eqRAnon a b c x y z).run Try.prog w = .ok (.bool (a3eq a b c x y z)) w := by
  change Sem.run Try.prog (Op.equalIn 10000 50 _ _ >>= _) w = _
  rw [Sem.run_bind, eqin_ranon]
  rfl
def neRAnon (a b c x y z : Int) : Sem Value := binOp .neq 50 (.agg #[.int .i64 a, .int .i64 b, .int .i64 c]) (.agg #[.int .i64 x, .int .i64 y, .int .i64 z])
@[go_sem high] theorem to_neRAnon (a b c x y z : Int) : binOp .neq 50 (.agg #[.int .i64 a, .int .i64 b, .int .i64 c]) (.agg #[.int .i64 x, .int .i64 y, .int .i64 z]) = neRAnon a b c x y z := rfl
@[go_sem] theorem run_neRAnon (a b c x y z : Int) (w : World) : (neRAnon a b c x y z).run Try.prog w = .ok (.bool (!(a3eq a b c x y z))) w := by
  change Sem.run Try.prog (Op.equalIn 10000 50 _ _ >>= _) w = _
  rw [Sem.run_bind, eqin_ranon]
  rfl
/-- Both pools. -/
abbrev Two (b m br : Nat) (most : Int) (st : Int × List Int × List (Int × A3)) (L : List A3) : Thing := Star (PoolTh b m most st) (RPX br most L)
section
variable {P : Nat → Prop} {W w : World} {b m br : Nat} {most last : Int} {free : List Int} {l : List (Int × A3)} {L : List A3}
theorem Two.steady {st : Int × List Int × List (Int × A3)} : Steady (Two b m br most st L) := PoolTh.steady.star RPX.steady
theorem makeT (h : Held P W w (Two b m br most (last, free, l) L)) (hP : ∀ k, P k → k < w.heap.size) (hl : (l.length : Int) < most) (hf : free.length ≤ 100000) (hla : -1000000 ≤ last ∧ last ≤ 1000000) (fr : Int) :
    Calls Try.prog 11 #[.pointer (some ⟨b, 0, none⟩), .int .i64 fr] w fun e w' => ∃ i : Int × Int × List Int, (e = .returned (.tuple #[.int .i64 i.1, .int .i64 0]) ∧ Made free last i.1 i.2.1 i.2.2) ∧
      Held P W w' (Two b m br most (i.2.1, i.2.2, alSet l i.1 (1, fr, -1)) L) ∧ ∀ k o, P k → ob w k = some o → ob w' k = some o :=
  Held.callX RPX.steady (fun _ => PoolTh.steady) h hP fun S hS => (make_any hS.x hl hf hla fr).mono fun e w' ⟨id, he, last', free', hM, hX⟩ =>
    let ⟨h1, h2⟩ := PoolTh.of hX
    ⟨(id, last', free'), ⟨he, hM⟩, h1, h2⟩
theorem refT (h : Held P W w (Two b m br most (last, free, l) L)) (hP : ∀ k, P k → k < w.heap.size) (hf : free.length ≤ 100000) (id : Int) (hr : ∀ a, alGet l id = some a → 0 ≤ a.1 ∧ a.1 ≤ 1000000) (x : Int) :
    Calls Try.prog 12 #[.pointer (some ⟨b, 0, none⟩), .int .i64 id, .int .i64 x] w fun e w' => ∃ i : A3 × Int × List Int × List (Int × A3), (e = .returned (.tuple #[a3 i.1, .int .i64 i.2.1]) ∧ ChOut (refRes x) free l id i.1 i.2.1 i.2.2.1 i.2.2.2) ∧
      Held P W w' (Two b m br most (last, i.2.2.1, i.2.2.2) L) ∧ ∀ k o, P k → ob w k = some o → ob w' k = some o :=
  Held.callX RPX.steady (fun _ => PoolTh.steady) h hP fun S hS => (ref_any hS.x hf hr x).mono fun e w' ⟨y, er, he, free', l', hc, hX⟩ =>
    let ⟨h1, h2⟩ := PoolTh.of hX
    ⟨(y, er, free', l'), ⟨he, hc⟩, h1, h2⟩
theorem putT (h : Held P W w (Two b m br most (last, free, l) L)) (hP : ∀ k, P k → k < w.heap.size) (hf : free.length ≤ 100000) (id x z : Int) :
    Calls Try.prog 16 #[.pointer (some ⟨b, 0, none⟩), .int .i64 id, .int .i64 x, .int .i64 z] w fun e w' => ∃ i : A3 × Int × List Int × List (Int × A3), (e = .returned (.int .i64 i.2.1) ∧ ChOut (putRes x z) free l id i.1 i.2.1 i.2.2.1 i.2.2.2) ∧
      Held P W w' (Two b m br most (last, i.2.2.1, i.2.2.2) L) ∧ ∀ k o, P k → ob w k = some o → ob w' k = some o :=
  Held.callX RPX.steady (fun _ => PoolTh.steady) h hP fun S hS => (put_any hS.x hf x z).mono fun e w' ⟨y, er, he, free', l', hc, hX⟩ =>
    let ⟨h1, h2⟩ := PoolTh.of hX
    ⟨(y, er, free', l'), ⟨he, hc⟩, h1, h2⟩
theorem rmakeT {st : Int × List Int × List (Int × A3)} (h : Held P W w (Two b m br most st L)) (hP : ∀ k, P k → k < w.heap.size) (hl : L.length ≤ 4500) (f : Int) :
    Calls Try.prog 18 #[.pointer (some ⟨br, 0, none⟩), .int .i64 f] w fun e w' => e = .returned (.tuple #[.int .i64 (rmakeO f most L).1, .int .i64 (rmakeO f most L).2.1]) ∧ Held P W w' (Two b m br most st (rmakeO f most L).2.2) ∧ ∀ k o, P k → ob w k = some o → ob w' k = some o :=
  (Held.call PoolTh.steady RPX.steady h.swap hP fun S hS => rmake_any hS hl f).mono fun e w' ⟨h1, h2, h3⟩ => ⟨h1, h2.swap, h3⟩
theorem rrefT {st : Int × List Int × List (Int × A3)} (h : Held P W w (Two b m br most st L)) (hP : ∀ k, P k → k < w.heap.size) (hl : L.length ≤ 5000) (hr : ∀ a ∈ L, 0 ≤ a.1 ∧ a.1 ≤ 1000000) (id x : Int) :
    Calls Try.prog 19 #[.pointer (some ⟨br, 0, none⟩), .int .i64 id, .int .i64 x] w fun e w' => e = .returned (.tuple #[.agg (a3s (rrefO x L id).1).toArray, .int .i64 (rrefO x L id).2.1]) ∧ Held P W w' (Two b m br most st (rrefO x L id).2.2) ∧ ∀ k o, P k → ob w k = some o → ob w' k = some o :=
  (Held.call PoolTh.steady RPX.steady h.swap hP fun S hS => rref_any hS hl hr id x).mono fun e w' ⟨h1, h2, h3⟩ => ⟨h1, h2.swap, h3⟩
theorem rputT {st : Int × List Int × List (Int × A3)} (h : Held P W w (Two b m br most st L)) (hP : ∀ k, P k → k < w.heap.size) (hl : L.length ≤ 5000) (id x z : Int) :
    Calls Try.prog 20 #[.pointer (some ⟨br, 0, none⟩), .int .i64 id, .int .i64 x, .int .i64 z] w fun e w' => e = .returned (.int .i64 (rputO x z L id).1) ∧ Held P W w' (Two b m br most st (rputO x z L id).2) ∧ ∀ k o, P k → ob w k = some o → ob w' k = some o :=
  (Held.call PoolTh.steady RPX.steady h.swap hP fun S hS => rput_any hS hl id x z).mono fun e w' ⟨h1, h2, h3⟩ => ⟨h1, h2.swap, h3⟩
theorem Two.x (h : Held P W w (Two b m br most (last, free, l) L)) : ∃ Pr, PoolX Pr w w b m most last free l := let ⟨_, h⟩ := h.left; ⟨_, h.x⟩
theorem Two.r {st : Int × List Int × List (Int × A3)} (h : Held P W w (Two b m br most st L)) : ∃ v, RP w br most v L := let ⟨_, v, h, _⟩ := h.right; ⟨v, h⟩
end
/-- What the loop keeps. -/
def ActsOK (most : Int) (j : Nat) (last : Int) (free : List Int) (l : List (Int × A3)) (L : List A3) : Prop := Rel last free l L ∧ (l.length : Int) ≤ most ∧ last ≤ j ∧ free.length ≤ j ∧ L.length ≤ j
set_option maxRecDepth 100000 in
set_option maxHeartbeats 16000000 in
theorem acts_walk (W : World) (most : Int) (A : Option Addr) (N C : Nat) (xs : List I4) (hx : Rd W 4 (.slice A N C) (xs.flatMap i4)) (hN : N = xs.length) :
    Calls Try.prog 7 #[.int .i64 most, .slice A N C] W fun e w' => e = .returned (.bool true) ∧ Fr (fun _ => False) W w' := by
  have HN := Lib.hid hN
  clear hN
  by_cases hout : most < 0 ∨ 4096 < most
  · have hn1 := new_no most hout W
    have hn2 := rnew_no most hout W
    clear hout
    go_enter Try.func7, Try.ntmps7
    go_wp2_with fail
    refine hn1.mono ?_
    rintro e w1 ⟨rfl, rfl⟩
    go_wp2_with fail
    refine hn2.mono ?_
    rintro e w2 ⟨rfl, rfl⟩
    go_wp2_with fail
    refine (lives_any _).mono ?_
    rintro e w9 ⟨rfl, hf9⟩
    go_wp2
    go_ret
    exact ⟨rfl, hf9⟩
  have hm0 : 0 ≤ most := by omega
  have hm1 : most ≤ 4096 := by omega
  clear hout
  have hnew := new_any most hm0 hm1 W
  go_enter Try.func7, Try.ntmps7
  go_wp2_with fail
  refine hnew.mono ?_
  rintro e w1 ⟨b, m, rfl, hX1, hf1, -, -⟩
  clear hnew
  go_wp2_with fail
  refine (rnew_any most hm0 hm1 w1).mono ?_
  rintro e w2 ⟨br, rfl, hR2, hf2⟩
  have h0 : Held (fun _ => False) W w2 (Two b m br most (0, [], []) []) := by
    obtain ⟨fv, q1, q2, q3, q4⟩ := hX1
    have hp : Held (fun _ => False) W w1 (PoolTh b m most (0, [], [])) := Held.mk (S := fun k => W.heap.size ≤ k) PoolTh.steady ⟨fv, q1, fun k hk => Nat.le_of_not_lt (q2 k hk)⟩ (fun k hk => ⟨hk, fun h => h⟩) hf1
    exact (hp.add PoolTh.steady RPX.steady hf2 hR2 (fun k hk => ⟨hk, fun h => h⟩)).swap
  have hf02 := hf1.step hf2 (fun _ h => h.elim)
  clear hX1 hR2 hf1 hf2
  by_cases hbig : 150 < N
  · go_wp2_with fail
    refine (lives_any _).mono ?_
    rintro e w3 ⟨rfl, hf3⟩
    go_wp2
    go_ret
    exact ⟨rfl, hf02.step hf3 (fun _ h => h.elim)⟩
  have hN3 : N ≤ 150 := by omega
  clear hbig
  have HR := Lib.hid (show ∀ w2, Fr (fun _ => False) W w2 → Rd w2 4 (.slice A N C) (xs.flatMap i4) from fun w2 hf => hx.of hf (fun _ h => h.elim))
  clear hx hf02
  go_wp2_with fail
  go_loopw [41] (fun si wr => ∃ (j : Nat) (last : Int) (free : List Int) (l : List (Int × A3)) (L : List A3), j ≤ N ∧ si = .int .i64 j ∧ Held (fun _ => False) W wr (Two b m br most (last, free, l) L) ∧ Hid (ActsOK most j last free l L)) (fun si _ => N - (intOf si).toNat)
  case atStart => exact ⟨0, 0, [], [], [], by omega, rfl, h0, Lib.hid ⟨Rel.start, by simpa using hm0, by simp, by simp, by simp⟩⟩
  case round =>
    obtain ⟨j, last, free, l, L, hjN, rfl, hH, HO⟩ := hrel
    clear h0
    have hfW := hH.hf
    by_cases hlt : j < N
    · obtain ⟨a, ha⟩ : ∃ a, xs[j]? = some a := ⟨_, List.getElem?_eq_getElem (by have := HN.out; omega)⟩
      obtain ⟨g, off, n', cap', heq, hgl, hcs⟩ := Rd.at i4_len (by omega) (HR.out wr hfW) ha
      cases heq
      obtain ⟨kd, id, va, vb⟩ := a
      have c0 : wr.cell? ⟨g, off + j * 4, none⟩ = some (.int .i64 kd) := hcs 0 _ rfl
      have c1 := hcs 1 _ rfl
      have c2 := hcs 2 _ rfl
      have c3 := hcs 3 _ rfl
      clear hcs ha
      obtain ⟨w2, hw2⟩ : ∃ w2, wr.alloc (.cells #[.int .i64 kd, .int .i64 id, .int .i64 va, .int .i64 vb] 38) = w2 := ⟨_, rfl⟩
      obtain ⟨ba, hba⟩ : ∃ ba, wr.heap.size = ba := ⟨_, rfl⟩
      have oa : ob w2 ba = some (.cells #[.int .i64 kd, .int .i64 id, .int .i64 va, .int .i64 vb] 38 (0, 0)) := by rw [← hw2, ← hba]; exact ob_new _ _
      have hf2 : Fr (fun _ => False) wr w2 := by rw [← hw2]; exact (Fr.refl _ wr).alloc _
      have hHP : Held (fun k => k = ba) W wr (Two b m br most (last, free, l) L) := hH.safe (fun k hk _ => by omega)
      have hH2 := hHP.keep Two.steady hf2
      have hP2 : ∀ k, k = ba → k < w2.heap.size := fun k hk => by rw [hk]; exact ob_lt oa
      have d0 := cell_of_ob oa 0
      have d1 := cell_of_ob oa 1
      have d2 := cell_of_ob oa 2
      have d3 := cell_of_ob oa 3
      have HREL := Lib.hid HO.out.1
      have HLM := Lib.hid HO.out.2.1
      have hla1 : last ≤ 150 := by have := HO.out.2.2.1; omega
      have hla0 : 0 ≤ last := HREL.out.pool.last0
      have hfl : free.length ≤ 150 := by have := HO.out.2.2.2.1; omega
      have hLl : L.length ≤ 150 := by have := HO.out.2.2.2.2; omega
      have HLL := Lib.hid hLl
      have HLA := Lib.hid HO.out.2.2.1
      have HFL := Lib.hid HO.out.2.2.2.1
      have HLJ := Lib.hid HO.out.2.2.2.2
      clear hH hHP hfW hLl
      go_upto_block 2 with fail
      clear hw2 hba hf2 c0 c1 c2 c3 hgl
      go_cut [9] (fun so wc => so = .bool true ∧ ∃ (last' : Int) (free' : List Int) (l' : List (Int × A3)) (L' : List A3), Held (fun k => k = ba) W wc (Two b m br most (last', free', l') L') ∧ ob wc ba = some (.cells #[.int .i64 kd, .int .i64 id, .int .i64 va, .int .i64 vb] 38 (0, 0)) ∧ Hid (ActsOK most (j + 1) last' free' l' L'))
      case first =>
        by_cases hk0 : kd = 0
        · subst hk0
          by_cases hroom : (l.length : Int) < most
          · have hmk := makeT hH2 hP2 hroom (by omega) (by omega) va
            have HROOM := Lib.hid hroom
            clear hroom
            go_wp2_with fail
            refine hmk.mono ?_
            rintro e w3 ⟨⟨nid, last', free'⟩, ⟨rfl, hM⟩, hH3, hkp⟩
            dsimp only at hM hH3
            clear hmk
            have oa3 := hkp _ _ rfl oa
            have e2 := cell_of_ob oa3 2
            have hP3 : ∀ k, k = ba → k < w3.heap.size := fun k hk => by rw [hk]; exact ob_lt oa3
            obtain ⟨Pr, hX⟩ := Two.x hH2
            obtain ⟨L', hmo, hrel', hlen'⟩ := HREL.out.make HROOM.out hM hX.heap va
            obtain ⟨g1, g2, g3, g4, g5, g6, g7, g8⟩ := HREL.out.pool.make hM hX.heap va
            have hrm := rmakeT hH3 hP3 (by have := HLL.out; omega) va
            rw [hmo] at hrm
            dsimp only at hrm
            have HOK : Hid (ActsOK most (j + 1) last' free' (alSet l nid (1, va, -1)) L') := Lib.hid ⟨hrel', by have := HROOM.out; omega, by have := HLA.out; omega, by have := HFL.out; omega, by have := HLJ.out; omega⟩
            clear hkp hX hM hmo hrel' hlen' g1 g2 g3 g4 g5 g6 g7 g8 hH2 hH3 d0 d1 d2 d3
            go_wp2_with fail
            refine hrm.mono ?_
            rintro e w4 ⟨rfl, hH4, hkp⟩
            clear hrm
            have oa4 := hkp _ _ rfl oa3
            go_wp2_with fail
            go_meet
            exact ⟨rfl, _, _, _, _, hH4, oa4, HOK⟩
          · obtain ⟨Pr, hX⟩ := Two.x hH2
            have hmf := make_full hX (by omega) va
            have hmo := HREL.out.full (most := most) (by omega) va
            clear hroom hX
            go_wp2_with fail
            refine hmf.mono ?_
            rintro e w3 ⟨rfl, hf3⟩
            clear hmf
            have hH3 := hH2.keep Two.steady hf3
            have oa3 := hf3.keep (fun h => h) oa
            have e2 := cell_of_ob oa3 2
            have hP3 : ∀ k, k = ba → k < w3.heap.size := fun k hk => by rw [hk]; exact ob_lt oa3
            have hrm := rmakeT hH3 hP3 (by have := HLL.out; omega) va
            rw [hmo] at hrm
            dsimp only at hrm
            clear hmo hH2 hH3 d0 d1 d2 d3
            go_wp2_with fail
            refine hrm.mono ?_
            rintro e w4 ⟨rfl, hH4, hkp⟩
            clear hrm
            have oa4 := hkp _ _ rfl oa3
            go_wp2_with fail
            go_meet
            exact ⟨rfl, _, _, _, _, hH4, oa4, Lib.hid ⟨HREL.out, HLM.out, by have := HLA.out; omega, by have := HFL.out; omega, by have := HLJ.out; omega⟩⟩
        by_cases hk1 : kd = 1
        · subst hk1
          have hrf := refT hH2 hP2 (by omega) id (fun a hg => HREL.out.pool.refsOK _ _ hg) va
          clear hk0
          go_wp2_with fail
          refine hrf.mono ?_
          rintro e w3 ⟨⟨⟨y1, y2, y3⟩, er, free', l'⟩, ⟨rfl, hc⟩, hH3, hkp⟩
          clear hrf
          dsimp only at hc hH3
          obtain ⟨q1, q2, L', hro, hrel', hlen'⟩ := HREL.out.ref hc
          have oa3 := hkp _ _ rfl oa
          have hHx : Held (fun k => k = ba ∨ k = w3.heap.size) W w3 (Two b m br most (last, free', l') L) := hH3.safe (fun k hk hn => hk.elim (fun h => absurd h hn) (fun h => by omega))
          obtain ⟨w4, hw4⟩ : ∃ w4, w3.alloc (.cells #[.int .i64 y1, .int .i64 y2, .int .i64 y3] 32) = w4 := ⟨_, rfl⟩
          obtain ⟨bx, hbx⟩ : ∃ k, w3.heap.size = k := ⟨_, rfl⟩
          have hfx : Fr (fun _ => False) w3 w4 := by rw [← hw4]; exact (Fr.refl _ w3).alloc _
          have ox : ob w4 bx = some (.cells #[.int .i64 y1, .int .i64 y2, .int .i64 y3] 32 (0, 0)) := by rw [← hw4, ← hbx]; exact ob_new _ _
          rw [hbx] at hHx
          have hH4 := hHx.keep Two.steady hfx
          have oa4 := hfx.keep (fun h => h) oa3
          have e1 := cell_of_ob oa4 1
          have e2 := cell_of_ob oa4 2
          have hP4 : ∀ k, k = ba ∨ k = bx → k < w4.heap.size := fun k hk => by rcases hk with rfl | rfl; exact ob_lt oa4; exact ob_lt ox
          have hrm := rrefT hH4 hP4 (by have := HLL.out; omega) HREL.out.refs id va
          rw [hro] at hrm
          dsimp only [a3s] at hrm
          have HOK : Hid (ActsOK most (j + 1) last free' l' L') := Lib.hid ⟨hrel', by have := HLM.out; omega, by have := HLA.out; omega, by have := HFL.out; omega, by have := HLJ.out; omega⟩
          have hself := a3eq_self y1 y2 y3
          simp only [a3]
          clear hkp hc hro hrel' hlen' q1 q2 hH2 hH3 hHx hH4 oa oa3 d0 d1 d2 d3
          go_wp2_with fail
          try rw [hw4]
          refine hrm.mono ?_
          rintro e w5 ⟨rfl, hH5, hkp⟩
          clear hrm hw4 hbx
          have ox5 := hkp _ _ (.inr rfl) ox
          have oa5 := hkp _ _ (.inl rfl) oa4
          have x0 := cell_of_ob ox5 0
          have x1 := cell_of_ob ox5 1
          have x2 := cell_of_ob ox5 2
          have hbx5 := ob_lt ox5
          have hH6 : Held (fun k => k = ba) W w5 (Two b m br most (last, free', l') L') := hH5.safe (fun k hk hn => absurd (.inl hk) hn)
          have hH7 := hH6.keep Two.steady ((Fr.refl _ w5).alloc (.cells #[.int .i64 y1, .int .i64 y2, .int .i64 y3] 50))
          have oa7 := ((Fr.refl (fun _ => False) w5).alloc (.cells #[.int .i64 y1, .int .i64 y2, .int .i64 y3] 50)).keep (fun h => h) oa5
          clear hH5 hH6 hkp hfx
          go_wp2_with fail
          go_meet
          exact ⟨rfl, _, _, _, _, hH7, oa7, HOK⟩
        by_cases hk2 : kd = 2
        · subst hk2
          clear hk0 hk1
          have hpt : ∀ p, Calls Try.prog 16 #[.pointer (some ⟨b, 0, none⟩), .int .i64 id, .int .i64 va, .int .i64 vb] (w2.drewN p) _ := fun p => putT (hH2.keep Two.steady (⟨rfl, rfl, rfl, Nat.le_refl _, fun _ _ _ => rfl⟩ : Fr (fun _ => False) w2 (w2.drewN p))) hP2 (by omega) id va vb
          have HPT := Lib.hid hpt
          have hS0 : w2.cell? ⟨ba, 1, none⟩ = some (.int .i64 id) ∧ w2.cell? ⟨ba, 2, none⟩ = some (.int .i64 va) ∧ w2.cell? ⟨ba, 3, none⟩ = some (.int .i64 vb) := ⟨d1, d2, d3⟩
          have HOA := Lib.hid (show ∀ p, ob (w2.drewN p) ba = some (.cells #[.int .i64 2, .int .i64 id, .int .i64 va, .int .i64 vb] 38 (0, 0)) from fun p => oa)
          clear hpt
          go_wp2_with fail
          go_region_held3 (fun w' => w'.cell? ⟨ba, 1, none⟩ = some (.int .i64 id) ∧ w'.cell? ⟨ba, 2, none⟩ = some (.int .i64 va) ∧ w'.cell? ⟨ba, 3, none⟩ = some (.int .i64 vb)) (first | exact hS0 | assumption | go_keep)
            (first
              | (go_at_call 16; refine (HPT.out _).mono ?_; rintro e w3 ⟨⟨y, er, free', l'⟩, ⟨rfl, hc⟩, hH3, hkp⟩; dsimp only at hc hH3; obtain ⟨q1, q2, L', hro, hrel', hlen'⟩ := HREL.out.put hc; have HRO := Lib.hid hro; have oa3 := hkp _ _ rfl (HOA.out _); have hS3 := And.intro (cell_of_ob oa3 1) (And.intro (cell_of_ob oa3 2) (cell_of_ob oa3 3)); have HC := Lib.hid (show ActsOK most (j + 1) last free' l' L' from ⟨hrel', by have := HLM.out; omega, by have := HLA.out; omega, by have := HFL.out; omega, by have := HLJ.out; omega⟩); clear hro hrel' hlen' q1 q2 hc hkp)
              | (go_at_call 20; refine ((rputT hH3 (fun k hk => by rw [hk]; exact ob_lt oa3) (by have := HLL.out; omega) id va vb)).mono ?_; rw [HRO.out]; rintro e w4 ⟨rfl, hH4, hkp⟩; dsimp only at hH4; have oa4 := hkp _ _ rfl oa3; have hS4 := And.intro (cell_of_ob oa4 1) (And.intro (cell_of_ob oa4 2) (cell_of_ob oa4 3)); clear hkp))
          all_goals (
            clear hH2 hH3 oa3 d0 d1 d2 d3 hS0
            go_wp2_with fail
            go_meet
            exact ⟨by simp, _, _, _, _, hH4, oa4, HC⟩)
        · go_wp2_with fail
          go_meet
          exact ⟨rfl, _, _, _, _, hH2, oa, Lib.hid ⟨HREL.out, HLM.out, by have := HLA.out; omega, by have := HFL.out; omega, by have := HLJ.out; omega⟩⟩
      case rest =>
        obtain ⟨rfl, last', free', l', L', hHc, oac, HO'⟩ := hcut
        clear hH2 oa d0 d1 d2 d3
        have HRL := Lib.hid HO'.out.1
        have hl4 : l'.length ≤ 4096 := by have := HO'.out.2.1; omega
        have hla : last' ≤ 1000 := by have := HO'.out.2.2.1; omega
        have hLL' : L'.length ≤ 1000 := by have := HO'.out.2.2.2.2; omega
        have hkeys := HRL.out.pool.keysOK (by omega) hl4
        have HK := Lib.hid hkeys
        have HL4 := Lib.hid hl4
        have HLL5 := Lib.hid hLL'
        have d1 := cell_of_ob oac 1
        obtain ⟨r, hr⟩ : ∃ r, (alGet l' id).getD (0, 0, 0) = r := ⟨_, rfl⟩
        obtain ⟨q, hq⟩ : ∃ q, (alGet l' id).isSome = q := ⟨_, rfl⟩
        obtain ⟨r1, r2, r3⟩ := r
        have hg1 : Calls Try.prog 13 #[.pointer (some ⟨b, 0, none⟩), .int .i64 id] wc fun e w' => e = .returned (.tuple #[.agg #[.int .i64 r1, .int .i64 r2, .int .i64 r3], .bool q]) ∧ Fr (fun _ => False) wc w' := by
          obtain ⟨Pr, hX⟩ := Two.x hHc
          have := get_any (id' := id) hX
          rw [hr, hq] at this
          exact this
        have HG2 : Hid (∀ w' : World, Held (fun k => k = ba) W w' (Two b m br most (last', free', l') L') → Calls Try.prog 21 #[.pointer (some ⟨br, 0, none⟩), .int .i64 id] w' fun e w'' => e = .returned (.tuple #[.agg #[.int .i64 r1, .int .i64 r2, .int .i64 r3], .bool q]) ∧ Fr (fun _ => False) w' w'') := Lib.hid fun w' hh => by
          obtain ⟨v, hR⟩ := Two.r hh
          have := rget_any hR (by omega) id
          rw [HRL.out.get, hr, hq] at this
          exact this
        have hself := a3eq_self r1 r2 r3
        clear hr hq hkeys hl4 hLL'
        go_wp2_with fail
        refine hg1.mono ?_
        rintro e w3 ⟨rfl, hf3⟩
        clear hg1 d1
        have hfA := hf3.alloc (.cells #[.int .i64 r1, .int .i64 r2, .int .i64 r3] 32)
        obtain ⟨w4, hw4⟩ : ∃ w4, w3.alloc (.cells #[.int .i64 r1, .int .i64 r2, .int .i64 r3] 32) = w4 := ⟨_, rfl⟩
        obtain ⟨bx, hbx⟩ : ∃ k, w3.heap.size = k := ⟨_, rfl⟩
        have ox : ob w4 bx = some (.cells #[.int .i64 r1, .int .i64 r2, .int .i64 r3] 32 (0, 0)) := by rw [← hw4, ← hbx]; exact ob_new _ _
        rw [hw4] at hfA
        have hH4 := hHc.keep Two.steady hfA
        have d1 := cell_of_ob (hfA.keep (fun h => h) oac) 1
        have hba4 := ob_lt (hfA.keep (fun h => h) oac)
        have hba3 := ob_lt (hf3.keep (fun h => h) oac)
        have hg2 := HG2.out w4 hH4
        clear HG2
        go_wp2_with fail
        try rw [hw4]
        refine hg2.mono ?_
        rintro e w5 ⟨rfl, hf5⟩
        clear hg2 hw4 hbx d1 hba4 hba3
        have ox5 := hf5.keep (fun h => h) ox
        have x0 := cell_of_ob ox5 0
        have x1 := cell_of_ob ox5 1
        have x2 := cell_of_ob ox5 2
        have hbx5 := ob_lt ox5
        have hf6 := (hfA.step hf5 (fun _ h => h.elim)).alloc (.cells #[.int .i64 r1, .int .i64 r2, .int .i64 r3] 50)
        have hH6 := hHc.keep Two.steady hf6
        obtain ⟨Pr, hX6⟩ := Two.x hH6
        have hids := ids_any hX6 HK.out
        have hqq : (q != q) = false := by simp
        cases q
        all_goals (
          go_wp2_with fail
          refine hids.mono ?_
          rintro e w7 ⟨A7, N7, C7, rfl, hs7, -, hf7⟩
          clear hids hX6
          have hH7 := hH6.keep Two.steady hf7
          obtain ⟨v7, hR7⟩ := Two.r hH7
          have hrids := rids_any hR7 (by have := HLL5.out; omega)
          go_wp2_with fail
          refine hrids.mono ?_
          rintro e w8 ⟨A8, N8, C8, rfl, hs8, -, hf8⟩
          clear hrids hR7
          have hH8 := hH7.keep Two.steady hf8
          have hcmp := intsEq_any (Sl.rd (Sl.fr hs7 hf8 (fun _ _ h => h))) (Sl.rd hs8) ⟨_, _, _, rfl⟩ ⟨_, _, _, rfl⟩ (by rw [idsOf_len]; have := HL4.out; omega)
          rw [HRL.out.ids, decide_eq_true rfl] at hcmp
          clear hs7 hs8 hH6 hH7
          go_wp2_with fail
          refine hcmp.mono ?_
          rintro e w9 ⟨rfl, hf9⟩
          clear hcmp
          have hH9 := hH8.keep Two.steady hf9
          obtain ⟨Pr9, hX9⟩ := Two.x hH9
          have hsum := sum_any hX9 HK.out HRL.out.pool.refsOK
          obtain ⟨sm, hsm⟩ : ∃ sm, allR l' = sm := ⟨_, rfl⟩
          have HSM := Lib.hid hsm
          rw [hsm] at hsum
          clear hH8 hX9 hsm
          go_wp2_with fail
          refine hsum.mono ?_
          rintro e w10 ⟨rfl, hf10⟩
          clear hsum
          have hH10 := hH9.keep Two.steady hf10
          obtain ⟨v10, hR10⟩ := Two.r hH10
          have hrsum := rsum_any hR10 (by have := HLL5.out; omega) HRL.out.refs
          rw [HRL.out.sum, HSM.out] at hrsum
          clear hH9 hR10
          go_wp2_with fail
          refine hrsum.mono ?_
          rintro e w11 ⟨rfl, hf11⟩
          clear hrsum
          have hH11 := hH10.keep Two.steady hf11
          obtain ⟨Pr11, hX11⟩ := Two.x hH11
          have hlen := len_any hX11
          obtain ⟨v11, hR11⟩ := Two.r hH11
          have hrids := rids_any hR11 (by have := HLL5.out; omega)
          obtain ⟨n11, hn11⟩ : ∃ n, l'.length = n := ⟨_, rfl⟩
          have HN11 := Lib.hid hn11
          rw [hn11] at hlen
          clear hH10 hX11 hR11 hn11
          go_wp2_with fail
          refine hlen.mono ?_
          rintro e w12 ⟨rfl, rfl⟩
          clear hlen
          go_wp2_with fail
          refine hrids.mono ?_
          rintro e w12 ⟨A12, N12, C12, rfl, hs12, -, hf12⟩
          clear hrids
          have hH12 := hH11.keep Two.steady hf12
          obtain rfl : N12 = n11 := by
            have h1 := hs12.len
            simp only [List.length_map, sliceLen] at h1
            have h2 := HRL.out.count
            have := HN11.out
            omega
          have hend : Held (fun _ => False) W w12 (Two b m br most (last', free', l') L') := hH12.safe (fun k hk => hk.elim)
          clear hs12 hH11 hH12
          go_wp2
          go_roundw
          case rel => exact ⟨j + 1, _, _, _, _, by omega, by go_num, hend, HO'⟩
          case measure => simp [intOf]; omega)
    · obtain rfl : j = N := by omega
      go_wp2_with fail
      refine (lives_any _).mono ?_
      rintro e w9 ⟨rfl, hf9⟩
      go_wp2
      go_ret
      exact ⟨rfl, hfW.step hf9 (fun _ h => h.elim)⟩
end Go.Proofs.Ytalinhpdibdlkaa
