/- pantryref14.Pool: Ref, Drop, Put. Conditions: bounds on lengths; references as they may be. -/
import Derived.Test.YtopfknikmhkaeaaOrB
namespace Go.Proofs.Ytopfknikmhkaeaa
open Go.RowKit
set_option linter.unusedSimpArgs false
set_option linter.unusedVariables false
attribute [local go_sem] Oper.semAt_some
def rrefR (l : List (Option Obt)) (id x : Int) : Int × Int × List (Option Obt) := match rgetR l id with
  | none => (0, 7, l)
  | some o => if x < -o.2.1 ∨ 1000000 - o.2.1 < x then (0, 2, l) else (o.2.1 + x, 0, rtidyR (l.set (id - 1).toNat (some (o.1, o.2.1 + x, o.2.2))) id)
def outP (q : List (Int × Pg)) (ix : Int) : List (Int × Pg) := q.filter fun x => !decide (x.1 = ix)
def rdropR (l : List (Option Obt)) (id ix : Int) : Bool × List (Option Obt) := match rgetP l id ix, rgetR l id with
  | some _, some o => (true, rtidyR (l.set (id - 1).toNat (some (o.1, o.2.1, outP o.2.2 ix))) id)
  | _, _ => (false, l)
theorem outP_snoc {q : List (Int × Pg)} {j : Nat} {x : Int × Pg} (h : q[j]? = some x) (ix : Int) : outP (q.take (j + 1)) ix = outP (q.take j) ix ++ if x.1 = ix then [] else [x] := by
  unfold outP
  rw [List.take_add_one, h, Option.toList_some, List.filter_append]
  by_cases h1 : x.1 = ix <;> simp [h1]
theorem outP_len (q : List (Int × Pg)) (ix : Int) : (outP q ix).length ≤ q.length := List.length_filter_le _ _
def insStep (ix : Int) (x : Pg) (s : List (Int × Pg) × Bool) (y : Int × Pg) : List (Int × Pg) × Bool :=
  let s1 := if ix ≤ y.1 ∧ s.2 = false then (s.1 ++ [(ix, x)], true) else s
  (if y.1 ≠ ix then s1.1 ++ [y] else s1.1, s1.2)
def insF (ix : Int) (x : Pg) (q : List (Int × Pg)) : List (Int × Pg) × Bool := q.foldl (insStep ix x) ([], false)
theorem insF_snoc {q : List (Int × Pg)} {j : Nat} {y : Int × Pg} (h : q[j]? = some y) (ix : Int) (x : Pg) : insF ix x (q.take (j + 1)) = insStep ix x (insF ix x (q.take j)) y := by
  unfold insF
  rw [List.take_add_one, h, Option.toList_some, List.foldl_append]
  rfl
theorem insStep_len (ix : Int) (x : Pg) (s : List (Int × Pg) × Bool) (y : Int × Pg) : (insStep ix x s y).1.length ≤ s.1.length + 2 := by
  unfold insStep
  dsimp only
  split <;> split <;> simp
theorem insF_len (ix : Int) (x : Pg) (q : List (Int × Pg)) : (insF ix x q).1.length ≤ 2 * q.length := by
  have key : ∀ (q : List (Int × Pg)) (s : List (Int × Pg) × Bool), (q.foldl (insStep ix x) s).1.length ≤ s.1.length + 2 * q.length := by
    intro q
    induction q with
    | nil => intro s; simp
    | cons y q ih => intro s; have h1 := ih (insStep ix x s y); have h2 := insStep_len ix x s y; simp only [List.foldl_cons, List.length_cons]; omega
  have := key q ([], false)
  simpa [insF] using this
def rputL (q : List (Int × Pg)) (ix : Int) (x : Pg) : List (Int × Pg) := if (insF ix x q).2 then (insF ix x q).1 else (insF ix x q).1 ++ [(ix, x)]
def rputR (l : List (Option Obt)) (id ix : Int) (x : Pg) : Int × List (Option Obt) := match rgetR l id with
  | none => (7, l)
  | some o => if ix < 0 ∨ 4096 ≤ ix then (2, l) else (0, l.set (id - 1).toNat (some (o.1, o.2.1, rputL o.2.2 ix x)))
section
variable {w w1 : World} {b : Nat} {most : Int} {v : Value} {L : List (Option REnt)} {l : List (Option Obt)} {S : Nat → Prop} {e e' : REnt} {i j : Nat}
set_option maxRecDepth 100000 in
set_option maxHeartbeats 2000000 in
theorem roref_any (h0 : ORX b most l w S) (hl : l.length ≤ 5000) (id x : Int) (hr : ∀ o, rgetR l id = some o → 0 ≤ o.2.1 ∧ o.2.1 ≤ 1000000) :
    Calls Try.prog 22 #[.pointer (some ⟨b, 0, none⟩), .int .i64 id, .int .i64 x] w fun e w' =>
      e = .returned (.tuple #[.int .i64 (rrefR l id x).1, .int .i64 (rrefR l id x).2.1]) ∧ ORX b most (rrefR l id x).2.2 w' (fun k => S k ∨ w.heap.size ≤ k) ∧ Fr S w w' := by
  have h0' := h0
  obtain ⟨v, L, h, rfl, hS⟩ := h0
  have hlL : L.length ≤ 5000 := by rw [outR_len] at hl; exact hl
  unfold rrefR
  rw [rgetR_out] at hr ⊢
  cases he : rgetR L id with
  | none =>
    have hob := robj_any h hlL id none (by rw [he]; rfl)
    clear he hr
    simp only [Option.map_none]
    go_enter Try.func22, Try.ntmps22
    go_wp2_with fail
    refine hob.mono ?_
    rintro e w1 ⟨rfl, rfl⟩
    simp only [ptrV, Option.map_none]
    go_wp2
    exact bodyPost_ret (v := .tuple #[.int .i64 0, .int .i64 7]) (by simp [results, Try.results22, go_sem]) rfl ⟨rfl, (ORX.steady _ _ _).wide h0' (fun k hk => .inl hk), Fr.refl _ _⟩
  | some e =>
    have hob := robj_any h hlL id (some e.1) (by rw [he]; rfl)
    obtain ⟨j, rfl, hj⟩ := rgetR_some he
    obtain ⟨hn0, hn1⟩ := hr _ (by rw [he]; rfl)
    obtain ⟨q, u, f, n, pgs⟩ := e
    dsimp only at hn0 hn1
    obtain ⟨hq, hu⟩ := h.one j _ hj
    dsimp only at hq hu
    have hql := ob_lt hq
    have d1 : w.cell? ⟨q, 1, none⟩ = some (.int .i64 n) := cell_of_ob hq 1
    have f1 : w.frozen? ⟨q, 1, none⟩ = false := frozen_of_ob hq 1
    have HJ := Lib.hid hj
    clear he hr hj
    simp only [Option.map_some]
    by_cases h1 : x < -n
    · rw [if_pos (.inl h1)]
      go_enter Try.func22, Try.ntmps22
      go_wp2_with fail
      refine hob.mono ?_
      rintro e w1 ⟨rfl, rfl⟩
      simp only [ptrV, Option.map_some]
      go_wp2
      exact bodyPost_ret (v := .tuple #[.int .i64 0, .int .i64 2]) (by simp [results, Try.results22, go_sem]) rfl ⟨rfl, (ORX.steady _ _ _).wide h0' (fun k hk => .inl hk), Fr.refl _ _⟩
    · by_cases h2 : 1000000 - n < x
      · rw [if_pos (.inr h2)]
        go_enter Try.func22, Try.ntmps22
        go_wp2_with fail
        refine hob.mono ?_
        rintro e w1 ⟨rfl, rfl⟩
        simp only [ptrV, Option.map_some]
        go_wp2
        exact bodyPost_ret (v := .tuple #[.int .i64 0, .int .i64 2]) (by simp [results, Try.results22, go_sem]) rfl ⟨rfl, (ORX.steady _ _ _).wide h0' (fun k hk => .inl hk), Fr.refl _ _⟩
      · rw [if_neg (by omega)]
        have hf1 : Fr (fun k => k = q) w (w.setCell ⟨q, 1, none⟩ (.int .i64 (n + x))) := (Fr.refl _ _).setCell _ _ (.inl rfl)
        have hq2 : ob (w.setCell ⟨q, 1, none⟩ (.int .i64 (n + x))) q = some (.cells #[.int .i64 f, .int .i64 (n + x), u] 88 (0, 0)) := ob_setCell_same hq _
        have hX := h.turn (e' := (q, u, f, n + x, pgs)) HJ.out rfl ⟨hq2, Sl.fr hu hf1 (fun k hk => h.pe HJ.out HJ.out hk)⟩ hf1
        have hqv : ∀ k, v.ownBlock = some k → k ≠ q := fun k hk => h.eve hk HJ.out
        have HRS : Hid (∀ k, RS b v (L.set j (some (q, u, f, n + x, pgs))) k → RS b v L k) := Lib.hid fun k hk => (RS_turn (e' := (q, u, f, n + x, pgs)) HJ.out rfl hk).elim (fun h => h) (fun h => .inr (.inr ⟨j, _, HJ.out, .inr h⟩))
        have htd := rotidy_any hX (by simpa using hlL) ((j : Int) + 1)
        have HQV := Lib.hid hqv
        have HSQ : Hid (S q) := Lib.hid (hS q (.inr (.inr ⟨j, _, HJ.out, .inl rfl⟩)))
        clear hqv
        go_enter Try.func22, Try.ntmps22
        go_wp2_with fail
        refine hob.mono ?_
        rintro e w1 ⟨rfl, rfl⟩
        simp only [ptrV, Option.map_some]
        go_wp2_with fail
        refine htd.mono ?_
        rintro e w3 ⟨rfl, hX3, hf3⟩
        have hq3 := hf3.keep (fun hk => HQV.out q hk rfl) hq2
        have hql3 := ob_lt hq3
        have d3 : w3.cell? ⟨q, 1, none⟩ = some (.int .i64 (n + x)) := cell_of_ob hq3 1
        clear d1 f1 hob htd
        go_wp2
        refine bodyPost_ret (v := .tuple #[.int .i64 (n + x), .int .i64 0]) (by simp [results, Try.results22, go_sem]) rfl ⟨rfl, ⟨v, _, hX3, ?_, fun k hk => .inl (hS k (HRS.out k (RS_tidy hk)))⟩, ?_⟩
        · rw [rtidy_out, outR_set, show ((j : Int) + 1 - 1).toNat = j by omega]; rfl
        · exact (hf1.mono' (fun k hk => by rw [hk]; exact HSQ.out)).step hf3 (fun k hk => .inl (hS k (.inr (.inl hk))))
set_option maxRecDepth 100000 in
set_option maxHeartbeats 4000000 in
theorem rodrop_any (h0 : ORX b most l w S) (hl : RFew l) (id ix : Int) :
    Calls Try.prog 24 #[.pointer (some ⟨b, 0, none⟩), .int .i64 id, .int .i64 ix] w fun e w' =>
      e = .returned (.bool (rdropR l id ix).1) ∧ ORX b most (rdropR l id ix).2 w' (fun k => S k ∨ w.heap.size ≤ k) ∧ Fr S w w' := by
  have h0' := h0
  have hget := roget_any h0 hl id ix
  obtain ⟨G, hG⟩ : ∃ G, rgetP l id ix = G := ⟨_, rfl⟩
  rw [hG] at hget
  cases G with
  | none =>
    have hd : rdropR l id ix = (false, l) := by unfold rdropR; rw [hG]
    rw [hd]
    simp only [Option.getD_none, Option.isSome_none, pgV] at hget
    clear hG hd
    go_enter Try.func24, Try.ntmps24
    go_wp2_with fail
    refine hget.mono ?_
    rintro e w1 ⟨rfl, hf1⟩
    go_wp2
    go_ret
    exact ⟨rfl, (ORX.steady _ _ _).wide ((ORX.steady _ _ _).keep h0' (hf1.alloc _)) (fun k hk => .inl hk), (hf1.alloc _).mono' (fun _ h => h.elim)⟩
  | some p =>
    obtain ⟨v, L, h, rfl, hS⟩ := h0
    have hlL : L.length ≤ 5000 := by have := hl.1; rw [outR_len] at this; exact this
    have hgo : ∃ e, rgetR L id = some e := by
      cases he : rgetR L id with
      | some e => exact ⟨e, rfl⟩
      | none =>
        unfold rgetP rpagesR at hG
        rw [rgetR_out, he] at hG
        simp at hG
    obtain ⟨e, he⟩ := hgo
    have hp5 := hl.2 id _ (by rw [rgetR_out, he]; rfl)
    have hd : rdropR (outR L) id ix = (true, rtidyR ((outR L).set (id - 1).toNat (some (e.2.2.1, e.2.2.2.1, outP e.2.2.2.2 ix))) id) := by unfold rdropR; rw [hG, rgetR_out, he]; rfl
    rw [hd]
    obtain ⟨j, rfl, hj⟩ := rgetR_some he
    obtain ⟨q, u, f, n, pgs⟩ := e
    dsimp only at hp5 ⊢
    obtain ⟨p1, p2, p3⟩ := p
    simp only [Option.getD_some, Option.isSome_some, pgV] at hget
    have HJ := Lib.hid hj
    have HE := Lib.hid he
    have HP5 := Lib.hid hp5
    obtain ⟨i0, hi0, hz, hsz, hby⟩ := oinfo infoOA
    clear hG hd hj he hp5
    go_enter Try.func24, Try.ntmps24
    go_wp2_with fail
    refine hget.mono ?_
    rintro e w1 ⟨rfl, hf1⟩
    clear hget
    obtain ⟨w2, hw2⟩ : ∃ w2, w1.alloc (.cells #[.int .i64 p1, .int .i64 p2, .bool p3] 57) = w2 := ⟨_, rfl⟩
    have hf2 : Fr (fun _ => False) w w2 := by rw [← hw2]; exact hf1.alloc _
    have h2 := h.keep hf2
    have hob := robj_any h2 hlL ((j : Int) + 1) (some q) (by rw [HE.out]; rfl)
    obtain ⟨hq, hu⟩ := h2.one j _ HJ.out
    dsimp only at hq hu
    have hql := ob_lt hq
    have d2 : w2.cell? ⟨q, 2, none⟩ = some u := cell_of_ob hq 2
    obtain ⟨A, N, C, rfl⟩ := hu.shape
    have hN : N = pgs.length := Sl.recN atE_len (by omega) hu
    have HN := Lib.hid hN
    have hN5 : N ≤ 5000 := by have := HP5.out; omega
    have HQ := Lib.hid hq
    clear hN hf1 hq
    go_wp2_with fail
    try rw [hw2]
    refine hob.mono ?_
    rintro e w3 ⟨rfl, rfl⟩
    clear hob hw2
    simp only [ptrV, Option.map_some]
    go_wp2_with fail
    go_loopw [9, 30] (fun sl si wr => ∃ (t : Nat), t ≤ N ∧ si = .int .i64 t ∧ Sl wr 64 4 sl ((outP (pgs.take t) ix).flatMap atE) ∧ Hid (Fr (fun _ => False) w2 wr ∧ ∀ k, sl.ownBlock = some k → w2.heap.size ≤ k)) (fun _ si _ => N - (intOf si).toNat)
    case atStart => exact ⟨0, by omega, rfl, Sl.nil _ _ _, Lib.hid ⟨Fr.refl _ _, fun k hk => (by cases hk)⟩⟩
    case round =>
      obtain ⟨t, ht, rfl, hsl, HI⟩ := hrel
      obtain ⟨A2, N2, C2, rfl⟩ := hsl.shape
      by_cases hlt : t < N
      · obtain ⟨x, hx⟩ : ∃ x, pgs[t]? = some x := ⟨_, List.getElem?_eq_getElem (by have := HN.out; omega)⟩
        obtain ⟨g, off, n', cap', heq, hgl, hgz, hcs⟩ := Sl.recAt atE_len (by omega) (Sl.fr hu HI.out.1 (fun _ _ h => h)) hx
        cases heq
        obtain ⟨x0, x1, x2, x3⟩ := x
        have c0 : wr.cell? ⟨g, off + t * 4, none⟩ = some (.int .i64 x0) := hcs 0 _ rfl
        have c1 : wr.cell? ⟨g, off + t * 4 + 1, none⟩ = some (.int .i64 x1) := hcs 1 _ rfl
        have c2 : wr.cell? ⟨g, off + t * 4 + 2, none⟩ = some (.int .i64 x2) := hcs 2 _ rfl
        have c3 : wr.cell? ⟨g, off + t * 4 + 3, none⟩ = some (.bool x3) := hcs 3 _ rfl
        have HX := Lib.hid (outP_snoc hx ix)
        have hlr : (outP (pgs.take t) ix).length ≤ 5000 := by have := outP_len (pgs.take t) ix; rw [List.length_take] at this; omega
        have hN2 : N2 ≤ 5000 := by have := Sl.recN atE_len (by omega) hsl; omega
        clear hx hcs hgz d2 hql
        by_cases hxi : x0 = ix
        · have HX2 : Hid (outP (pgs.take (t + 1)) ix = outP (pgs.take t) ix) := Lib.hid (by rw [HX.out, if_pos hxi, List.append_nil])
          have hxb : (x0 != ix) = false := by simp [hxi]
          clear hxi
          go_wp2
          go_roundw
          case rel => exact ⟨t + 1, by omega, by go_num, by rw [HX2.out]; exact hsl.alloc _, Lib.hid ⟨HI.out.1.alloc _, HI.out.2⟩⟩
          case measure => simp [intOf]; omega
        · have HX2 : Hid (outP (pgs.take (t + 1)) ix = outP (pgs.take t) ix ++ [(x0, x1, x2, x3)]) := Lib.hid (by rw [HX.out, if_neg hxi])
          have hxb : (x0 != ix) = true := by simp [hxi]
          clear hxi
          go_wp2_with (at_builtin; go_must (refine wpList_app (v := .slice A2 N2 C2) rfl _ _ _ rfl Try.underlying61 hi0 hz hsz hby rfl (by decide) rfl ((hsl.alloc _).alloc _) (wr.heap.size + 1) 1 1 [.int .i64 x0, .int .i64 x1, .int .i64 x2, .bool x3] rfl (ob_newAt _ _ _ (by simp)) rfl (by simp [Value.oneCell']) (by decide) (by simp only [maxLen, sliceLen]; omega) (by simp only [sliceLen]; omega) ?_; intro v2 w5 hs5 hf5 ho5 hl5; obtain ⟨A5, N5, C5, rfl⟩ := hs5.shape))
          go_roundw
          case rel =>
            refine ⟨t + 1, by omega, by go_num, ?_, Lib.hid ⟨((HI.out.1.alloc _).alloc _).step hf5 (fun k hk => .inr (HI.out.2 k hk)), fun k hk => ?_⟩⟩
            · rw [HX2.out, recs_snoc]
              exact hs5
            · rcases ho5 with h1 | ⟨q, h1, h2⟩
              · rw [h1] at hk; exact HI.out.2 k hk
              · rw [h1] at hk; cases hk; have := HI.out.1.size; simp at h2; omega
          case measure => simp [intOf]; omega
      · obtain rfl : t = N := by omega
        have hall : pgs.take t = pgs := by rw [HN.out, List.take_length]
        rw [hall] at hsl
        clear hall
        have hr := h2.keep HI.out.1
        have hqr := HI.out.1.keep (fun h => h) HQ.out
        have e2 : wr.cell? ⟨q, 2, none⟩ = some (.slice A t C) := cell_of_ob hqr 2
        have z2 := frozen_of_ob hqr 2
        have hqlr := ob_lt hqr
        have hqs : ∀ k, (Value.slice A2 N2 C2).ownBlock = some k → k ≠ q := fun k hk e1 => by
          obtain ⟨row, hr2⟩ := hsl.own hk
          rw [e1, hqr] at hr2
          cases hr2
        have hf3 : Fr (fun k => k = q) wr (wr.setCell ⟨q, 2, none⟩ (.slice A2 N2 C2)) := (Fr.refl _ _).setCell _ _ (.inl rfl)
        have hq2 : ob (wr.setCell ⟨q, 2, none⟩ (.slice A2 N2 C2)) q = some (.cells #[.int .i64 f, .int .i64 n, .slice A2 N2 C2] 88 (0, 0)) := ob_setCell_same hqr _
        have hX := hr.turn (e' := (q, .slice A2 N2 C2, f, n, outP pgs ix)) HJ.out rfl ⟨hq2, Sl.fr hsl hf3 hqs⟩ hf3
        have HRS : Hid (∀ k, RS b v (L.set j (some (q, .slice A2 N2 C2, f, n, outP pgs ix))) k → RS b v L k ∨ w2.heap.size ≤ k) := Lib.hid fun k hk => (RS_turn (e' := (q, .slice A2 N2 C2, f, n, outP pgs ix)) HJ.out rfl hk).imp_right (fun h => HI.out.2 k h)
        have htd := rotidy_any hX (by simpa using hlL) ((j : Int) + 1)
        have HSQ : Hid (S q) := Lib.hid (hS q (.inr (.inr ⟨j, _, HJ.out, .inl rfl⟩)))
        have HF := Lib.hid ((hf2.step HI.out.1 (fun _ h => h.elim)).mono' (S2 := S) (fun _ h => h.elim) |>.step hf3 (fun k hk => .inl (by rw [hk]; exact HSQ.out)))
        have HSZ := Lib.hid hf2.size
        clear hsl hr hqr hqs hf3 hq2 d2 hql
        go_wp2_with fail
        refine htd.mono ?_
        rintro e w6 ⟨rfl, hX6, hf6⟩
        clear htd
        go_wp2
        go_ret
        refine ⟨rfl, ⟨v, _, hX6, ?_, fun k hk => ?_⟩, HF.out.step hf6 (fun k hk => .inl (hS k (.inr (.inl hk))))⟩
        · rw [rtidy_out, outR_set, show ((j : Int) + 1 - 1).toNat = j by omega]; rfl
        · rcases HRS.out k (RS_tidy hk) with h | h
          · exact .inl (hS k h)
          · exact .inr (Nat.le_trans HSZ.out h)
/-- A slice that a loop builds up. -/
theorem grown_own {w wr : World} {v v5 : Value} (hf : Fr (fun _ => False) w wr) (hv : ∀ k, v.ownBlock = some k → w.heap.size ≤ k) {wx : World} (hx : wr.heap.size ≤ wx.heap.size) (ho : v5.ownBlock = v.ownBlock ∨ ∃ k, v5.ownBlock = some k ∧ wx.heap.size ≤ k) : ∀ k, v5.ownBlock = some k → w.heap.size ≤ k := fun k hk => by
  rcases ho with h1 | ⟨q, h1, h2⟩
  · rw [h1] at hk; exact hv k hk
  · rw [h1] at hk; cases hk; have := hf.size; omega
set_option maxRecDepth 100000 in
set_option maxHeartbeats 8000000 in
theorem roput_any (h0 : ORX b most l w S) (hl : RFew l) (id ix : Int) (x : Pg) :
    Calls Try.prog 23 #[.pointer (some ⟨b, 0, none⟩), .int .i64 id, .int .i64 ix, pgV x] w fun e w' =>
      e = .returned (.int .i64 (rputR l id ix x).1) ∧ ORX b most (rputR l id ix x).2 w' (fun k => S k ∨ w.heap.size ≤ k) ∧ Fr S w w' := by
  have h0' := h0
  obtain ⟨v, L, h, rfl, hS⟩ := h0
  have hlL : L.length ≤ 5000 := by have := hl.1; rw [outR_len] at this; exact this
  obtain ⟨a1, a2, a3⟩ := x
  obtain ⟨w1, hw1⟩ : ∃ w1, w.alloc (.cells #[.int .i64 a1, .int .i64 a2, .bool a3] 57) = w1 := ⟨_, rfl⟩
  obtain ⟨bx, hbx⟩ : ∃ bx, w.heap.size = bx := ⟨_, rfl⟩
  have hf1 : Fr (fun _ => False) w w1 := by rw [← hw1]; exact (Fr.refl _ w).alloc _
  have ox : ob w1 bx = some (.cells #[.int .i64 a1, .int .i64 a2, .bool a3] 57 (0, 0)) := by rw [← hw1, ← hbx]; exact ob_new _ _
  have h1 := h.keep hf1
  simp only [pgV]
  unfold rputR
  rw [rgetR_out]
  have hend : ORX b most (outR L) w1 (fun k => S k ∨ w.heap.size ≤ k) := (ORX.steady _ _ _).wide ((ORX.steady _ _ _).keep h0' hf1) (fun k hk => .inl hk)
  have hfS : Fr S w w1 := hf1.mono' (fun _ h => h.elim)
  cases he : rgetR L id with
  | none =>
    have hob := robj_any h1 hlL id none (by rw [he]; rfl)
    clear he
    simp only [Option.map_none]
    go_enter Try.func23, Try.ntmps23
    go_wp2_with fail
    try rw [hw1]
    refine hob.mono ?_
    rintro e w2 ⟨rfl, rfl⟩
    simp only [ptrV, Option.map_none]
    go_wp2
    go_ret
    exact ⟨rfl, hend, hfS⟩
  | some e =>
    have hob := robj_any h1 hlL id (some e.1) (by rw [he]; rfl)
    have hp5 := hl.2 id _ (by rw [rgetR_out, he]; rfl)
    obtain ⟨j, rfl, hj⟩ := rgetR_some he
    obtain ⟨q, u, f, n, pgs⟩ := e
    obtain ⟨hq, hu⟩ := h1.one j _ hj
    dsimp only at hq hu hp5
    simp only [Option.map_some]
    have hql := ob_lt hq
    have d2 : w1.cell? ⟨q, 2, none⟩ = some u := cell_of_ob hq 2
    have HJ := Lib.hid hj
    clear he hj
    by_cases hi1 : ix < 0
    · rw [if_pos (.inl hi1)]
      go_enter Try.func23, Try.ntmps23
      go_wp2_with fail
      try rw [hw1]
      refine hob.mono ?_
      rintro e w2 ⟨rfl, rfl⟩
      simp only [ptrV, Option.map_some]
      go_wp2
      go_ret
      exact ⟨rfl, hend, hfS⟩
    by_cases hi2 : 4096 ≤ ix
    · rw [if_pos (.inr hi2)]
      go_enter Try.func23, Try.ntmps23
      go_wp2_with fail
      try rw [hw1]
      refine hob.mono ?_
      rintro e w2 ⟨rfl, rfl⟩
      simp only [ptrV, Option.map_some]
      go_wp2
      go_ret
      exact ⟨rfl, hend, hfS⟩
    rw [if_neg (by omega)]
    obtain ⟨A, N, C, rfl⟩ := hu.shape
    have hN : N = pgs.length := Sl.recN atE_len (by omega) hu
    have HN := Lib.hid hN
    have hN5 : N ≤ 5000 := by omega
    have HQ := Lib.hid hq
    obtain ⟨i0, hi0, hz, hsz, hby⟩ := oinfo infoOA
    have HX0 := Lib.hid hend
    clear hN hq hp5 hend
    go_enter Try.func23, Try.ntmps23
    go_wp2_with fail
    try rw [hw1]
    refine hob.mono ?_
    rintro e w3 ⟨rfl, rfl⟩
    clear hob hw1
    simp only [ptrV, Option.map_some]
    go_wp2_with fail
    go_loopw [10, 11, 32] (fun sl sd si wr => ∃ (t : Nat) (d : Bool) (q2 : List (Int × Pg)), t ≤ N ∧ si = .int .i64 t ∧ sd = .bool d ∧ Sl wr 64 4 sl (q2.flatMap atE) ∧ Hid (Fr (fun _ => False) w1 wr ∧ (∀ k, sl.ownBlock = some k → w1.heap.size ≤ k) ∧ insF ix (a1, a2, a3) (pgs.take t) = (q2, d))) (fun _ _ si _ => N - (intOf si).toNat)
    case atStart => exact ⟨0, false, [], by omega, rfl, rfl, Sl.nil _ _ _, Lib.hid ⟨Fr.refl _ _, fun k hk => (by cases hk), rfl⟩⟩
    case round =>
      obtain ⟨t, d, qq, ht, rfl, rfl, hsl, HI⟩ := hrel
      obtain ⟨A2, N2, C2, rfl⟩ := hsl.shape
      have hlq : qq.length ≤ 10000 := by have h1 := insF_len ix (a1, a2, a3) (pgs.take t); rw [HI.out.2.2] at h1; rw [List.length_take] at h1; simp only at h1; omega
      have hN2 : N2 ≤ 10000 := by have := Sl.recN atE_len (by omega) hsl; omega
      have oxr := HI.out.1.keep (fun h => h) ox
      have x0 := cell_of_ob oxr 0
      have x1 := cell_of_ob oxr 1
      have x2 := cell_of_ob oxr 2
      have hbxr := ob_lt oxr
      have hbx1 : bx < wr.heap.size + 1 := by omega
      clear hlq
      by_cases hlt : t < N
      · obtain ⟨y, hy⟩ : ∃ y, pgs[t]? = some y := ⟨_, List.getElem?_eq_getElem (by have := HN.out; omega)⟩
        obtain ⟨g, off, n', cap', heq, hgl, hgz, hcs⟩ := Sl.recAt atE_len (by omega) (Sl.fr hu HI.out.1 (fun _ _ h => h)) hy
        cases heq
        have HX := Lib.hid (insF_snoc hy ix (a1, a2, a3))
        obtain ⟨y0, y1, y2, y3⟩ := y
        have c0 : wr.cell? ⟨g, off + t * 4, none⟩ = some (.int .i64 y0) := hcs 0 _ rfl
        have c1 : wr.cell? ⟨g, off + t * 4 + 1, none⟩ = some (.int .i64 y1) := hcs 1 _ rfl
        have c2 : wr.cell? ⟨g, off + t * 4 + 2, none⟩ = some (.int .i64 y2) := hcs 2 _ rfl
        have c3 : wr.cell? ⟨g, off + t * 4 + 3, none⟩ = some (.bool y3) := hcs 3 _ rfl
        clear hy hcs hgz d2 hql
        obtain ⟨by1, hby1⟩ : ∃ k, wr.heap.size = k := ⟨_, rfl⟩
        have hslt : ∀ k, (Value.slice A2 N2 C2).ownBlock = some k → k ≠ wr.heap.size := fun k hk e1 => by have := Sl.lt hsl hk; omega
        have HSLT := Lib.hid hslt
        clear hslt hby1
        by_cases hfirst : ix ≤ y0 ∧ d = false
        · obtain ⟨hge, rfl⟩ := hfirst
          by_cases hyi : y0 = ix
          · subst hyi
            have HS : Hid (insF y0 (a1, a2, a3) (pgs.take (t + 1)) = (qq ++ [(y0, (a1, a2, a3))], true)) := Lib.hid (by rw [HX.out, HI.out.2.2]; unfold insStep; simp)
            have hyb : (y0 != y0) = false := by simp
            go_wp2_with (at_builtin; go_must (
              refine wpList_app (v := .slice A2 N2 C2) rfl _ _ _ rfl Try.underlying61 hi0 hz hsz hby rfl (by decide) rfl ((hsl.alloc _).alloc _) (wr.heap.size + 1) 1 1 [.int .i64 y0, .int .i64 a1, .int .i64 a2, .bool a3] rfl (ob_newAt _ _ _ (by simp)) rfl (by simp [Value.oneCell']) (by decide) (by simp only [maxLen, sliceLen]; omega) (by simp only [sliceLen]; omega) ?_
              intro v2 w5 hs5 hf5 ho5 hl5
              obtain ⟨A5, N5, C5, rfl⟩ := hs5.shape
              have oy5 : ob w5 wr.heap.size = some (.cells #[.int .i64 y0, .int .i64 y1, .int .i64 y2, .bool y3] 64 (0, 0)) := hf5.keep (fun e => HSLT.out _ e rfl) ((ob_alloc _ _ _ (by simp)).trans (ob_new _ _))
              have k0 := cell_of_ob oy5 0
              have k1 := cell_of_ob oy5 1
              have k2 := cell_of_ob oy5 2
              have k3 := cell_of_ob oy5 3))
            go_roundw
            case rel =>
              refine ⟨t + 1, true, _, by omega, by go_num, rfl, ?_, Lib.hid ⟨((HI.out.1.alloc _).alloc _).step hf5 (fun k hk => .inr (HI.out.2.1 k hk)), grown_own HI.out.1 HI.out.2.1 (by simp; omega) ho5, HS.out⟩⟩
              rw [recs_snoc]
              exact hs5
            case measure => simp [intOf]; omega
          · have HS : Hid (insF ix (a1, a2, a3) (pgs.take (t + 1)) = (qq ++ [(ix, (a1, a2, a3))] ++ [(y0, (y1, y2, y3))], true)) := Lib.hid (by rw [HX.out, HI.out.2.2]; unfold insStep; simp [hge, hyi])
            have hyb : (y0 != ix) = true := by simp [hyi]
            clear hyi
            go_wp2_with (at_builtin; go_must (first
              | (refine wpList_app (v := .slice A2 N2 C2) rfl _ _ _ rfl Try.underlying61 hi0 hz hsz hby rfl (by decide) rfl ((hsl.alloc _).alloc _) (wr.heap.size + 1) 1 1 [.int .i64 ix, .int .i64 a1, .int .i64 a2, .bool a3] rfl (ob_newAt _ _ _ (by simp)) rfl (by simp [Value.oneCell']) (by decide) (by simp only [maxLen, sliceLen]; omega) (by simp only [sliceLen]; omega) ?_
                 intro v2 w5 hs5 hf5 ho5 hl5
                 obtain ⟨A5, N5, C5, rfl⟩ := hs5.shape
                 have oy5 : ob w5 wr.heap.size = some (.cells #[.int .i64 y0, .int .i64 y1, .int .i64 y2, .bool y3] 64 (0, 0)) := hf5.keep (fun e => HSLT.out _ e rfl) ((ob_alloc _ _ _ (by simp)).trans (ob_new _ _))
                 have k0 := cell_of_ob oy5 0
                 have k1 := cell_of_ob oy5 1
                 have k2 := cell_of_ob oy5 2
                 have k3 := cell_of_ob oy5 3
                 have hlt5 := ob_lt oy5
                 have hN5' : N5 ≤ 10001 := by have : N5 = N2 + 1 := hl5; omega
                 have hf05 : Fr (fun _ => False) w1 w5 := ((HI.out.1.alloc _).alloc _).step hf5 (fun k hk => .inr (HI.out.2.1 k hk))
                 have HO5 := Lib.hid (grown_own HI.out.1 HI.out.2.1 (by simp; omega) ho5))
              | (refine wpList_app (v := .slice A5 N5 C5) rfl _ _ _ rfl Try.underlying61 hi0 hz hsz hby rfl (by decide) rfl (hs5.alloc _) w5.heap.size 1 1 [.int .i64 y0, .int .i64 y1, .int .i64 y2, .bool y3] rfl (ob_newAt _ _ _ (by simp)) rfl (by simp [Value.oneCell']) (by decide) (by simp only [maxLen, sliceLen]; omega) (by simp only [sliceLen]; omega) ?_
                 intro v6 w6 hs6 hf6 ho6 hl6
                 obtain ⟨A6, N6, C6, rfl⟩ := hs6.shape)))
            go_roundw
            case rel =>
              refine ⟨t + 1, true, _, by omega, by go_num, rfl, ?_, Lib.hid ⟨(hf05.alloc _).step hf6 (fun k hk => .inr (HO5.out k hk)), grown_own hf05 HO5.out (by simp) ho6, HS.out⟩⟩
              rw [recs_snoc, recs_snoc]
              exact hs6
            case measure => simp [intOf]; omega
        · have hst : insStep ix (a1, a2, a3) (qq, d) (y0, (y1, y2, y3)) = (if y0 ≠ ix then qq ++ [(y0, (y1, y2, y3))] else qq, d) := by unfold insStep; simp only; rw [if_neg hfirst]
          have hd : (y0 < ix) ∨ (ix ≤ y0 ∧ d = true) := by
            by_cases h1 : ix ≤ y0
            · right; refine ⟨h1, ?_⟩; cases d with
              | true => rfl
              | false => exact absurd ⟨h1, rfl⟩ hfirst
            · left; omega
          clear hfirst
          by_cases hyi : y0 = ix
          · have HS : Hid (insF ix (a1, a2, a3) (pgs.take (t + 1)) = (qq, d)) := Lib.hid (by rw [HX.out, HI.out.2.2, hst, if_neg (by simp [hyi])])
            have hyb : (y0 != ix) = false := by simp [hyi]
            clear hst
            rcases hd with hd | ⟨hd, rfl⟩
            · omega
            · clear hyi
              go_wp2
              go_roundw
              case rel => exact ⟨t + 1, true, _, by omega, by go_num, rfl, hsl.alloc _, Lib.hid ⟨HI.out.1.alloc _, HI.out.2.1, HS.out⟩⟩
              case measure => simp [intOf]; omega
          · have HS : Hid (insF ix (a1, a2, a3) (pgs.take (t + 1)) = (qq ++ [(y0, (y1, y2, y3))], d)) := Lib.hid (by rw [HX.out, HI.out.2.2, hst, if_pos hyi])
            have hyb : (y0 != ix) = true := by simp [hyi]
            clear hst hyi
            rcases hd with hd | ⟨hd, rfl⟩
            all_goals (
              go_wp2_with (at_builtin; go_must (
                refine wpList_app (v := .slice A2 N2 C2) rfl _ _ _ rfl Try.underlying61 hi0 hz hsz hby rfl (by decide) rfl ((hsl.alloc _).alloc _) (wr.heap.size + 1) 1 1 [.int .i64 y0, .int .i64 y1, .int .i64 y2, .bool y3] rfl (ob_newAt _ _ _ (by simp)) rfl (by simp [Value.oneCell']) (by decide) (by simp only [maxLen, sliceLen]; omega) (by simp only [sliceLen]; omega) ?_
                intro v2 w5 hs5 hf5 ho5 hl5
                obtain ⟨A5, N5, C5, rfl⟩ := hs5.shape))
              go_roundw
              case rel =>
                refine ⟨t + 1, _, _, by omega, by go_num, rfl, ?_, Lib.hid ⟨((HI.out.1.alloc _).alloc _).step hf5 (fun k hk => .inr (HI.out.2.1 k hk)), grown_own HI.out.1 HI.out.2.1 (by simp; omega) ho5, HS.out⟩⟩
                rw [recs_snoc]
                exact hs5
              case measure => simp [intOf]; omega)
      · obtain rfl : t = N := by omega
        have hall : pgs.take t = pgs := by rw [HN.out, List.take_length]
        have hins := HI.out.2.2
        rw [hall] at hins
        have HINS := Lib.hid hins
        have hr := h1.keep HI.out.1
        have hqr := HI.out.1.keep (fun h => h) HQ.out
        have hqlr := ob_lt hqr
        have HSQ : Hid (S q) := Lib.hid (hS q (.inr (.inr ⟨j, _, HJ.out, .inl rfl⟩)))
        have fin : ∀ (w6 : World) (A6 : Option Addr) (N6 C6 : Nat) (q6 : List (Int × Pg)), Fr (fun _ => False) w1 w6 → Sl w6 64 4 (.slice A6 N6 C6) (q6.flatMap atE) → (∀ k, (Value.slice A6 N6 C6).ownBlock = some k → w1.heap.size ≤ k) → q6 = rputL pgs ix (a1, a2, a3) →
            ORX b most ((outR L).set ((j : Int) + 1 - 1).toNat (some (f, n, rputL pgs ix (a1, a2, a3)))) (w6.setCell ⟨q, 2, none⟩ (.slice A6 N6 C6)) (fun k => S k ∨ w.heap.size ≤ k) ∧ Fr S w (w6.setCell ⟨q, 2, none⟩ (.slice A6 N6 C6)) := fun w6 A6 N6 C6 q6 hf6 hs6 ho6 hq6 => by
          have hr6 := h1.keep hf6
          have hqr6 := hf6.keep (fun h => h) HQ.out
          have hqs : ∀ k, (Value.slice A6 N6 C6).ownBlock = some k → k ≠ q := fun k hk e1 => by
            obtain ⟨row, hr2⟩ := hs6.own hk
            rw [e1, hqr6] at hr2
            cases hr2
          have hf7 : Fr (fun k => k = q) w6 (w6.setCell ⟨q, 2, none⟩ (.slice A6 N6 C6)) := (Fr.refl _ _).setCell _ _ (.inl rfl)
          have hq7 : ob (w6.setCell ⟨q, 2, none⟩ (.slice A6 N6 C6)) q = some (.cells #[.int .i64 f, .int .i64 n, .slice A6 N6 C6] 88 (0, 0)) := ob_setCell_same hqr6 _
          have hX := hr6.turn (e' := (q, .slice A6 N6 C6, f, n, q6)) HJ.out rfl ⟨hq7, Sl.fr hs6 hf7 hqs⟩ hf7
          refine ⟨⟨v, _, hX, ?_, fun k hk => ?_⟩, ((hf1.step hf6 (fun _ h => h.elim)).mono' (S2 := S) (fun _ h => h.elim)).step hf7 (fun k hk => .inl (by rw [hk]; exact HSQ.out))⟩
          · rw [outR_set, show ((j : Int) + 1 - 1).toNat = j by omega, ← hq6]; rfl
          · rcases RS_turn (e' := (q, .slice A6 N6 C6, f, n, q6)) HJ.out rfl hk with h | h
            · exact .inl (hS k h)
            · exact .inr (Nat.le_trans hf1.size (ho6 k h))
        have FIN := Lib.hid fin
        clear hall hins fin d2 hql h0' hr
        cases d with
        | true =>
          have hres := FIN.out wr A2 N2 C2 qq HI.out.1 hsl HI.out.2.1 (by unfold rputL; rw [HINS.out]; rfl)
          have HRES := Lib.hid hres
          have e2 : wr.cell? ⟨q, 2, none⟩ = some (.slice A t C) := cell_of_ob hqr 2
          have z2 := frozen_of_ob hqr 2
          clear hres hqr
          go_wp2
          go_ret
          exact ⟨rfl, HRES.out.1, HRES.out.2⟩
        | false =>
          have HQR := Lib.hid hqr
          go_wp2_with (at_builtin; go_must (
            refine wpList_app (v := .slice A2 N2 C2) rfl _ _ _ rfl Try.underlying61 hi0 hz hsz hby rfl (by decide) rfl (hsl.alloc _) wr.heap.size 1 1 [.int .i64 ix, .int .i64 a1, .int .i64 a2, .bool a3] rfl (ob_newAt _ _ _ (by simp)) rfl (by simp [Value.oneCell']) (by decide) (by simp only [maxLen, sliceLen]; omega) (by simp only [sliceLen]; omega) ?_
            intro v2 w5 hs5 hf5 ho5 hl5
            obtain ⟨A5, N5, C5, rfl⟩ := hs5.shape
            have hf05 : Fr (fun _ => False) w1 w5 := (HI.out.1.alloc _).step hf5 (fun k hk => .inr (HI.out.2.1 k hk))
            have hqr5 := hf05.keep (fun h => h) HQ.out
            have e2 : w5.cell? ⟨q, 2, none⟩ = some (.slice A t C) := cell_of_ob hqr5 2
            have z2 := frozen_of_ob hqr5 2
            have hql5 := ob_lt hqr5
            have HRES := Lib.hid (FIN.out w5 A5 N5 C5 (qq ++ [(ix, (a1, a2, a3))]) hf05 (by rw [recs_snoc]; exact hs5) (grown_own HI.out.1 HI.out.2.1 (by simp) ho5) (by unfold rputL; rw [HINS.out]; rfl))
            clear hqr5))
          go_ret
          exact ⟨rfl, HRES.out.1, HRES.out.2⟩
end
end Go.Proofs.Ytopfknikmhkaeaa
