/- object.Pool.Pages: its closure, for every loop body that keeps what it reads. Conditions: as in XObPg. -/
import Derived.Test.YtopfknikmhkaeaaObPg
import Derived.WalkKit
import Derived.OwnWalkIn
import Derived.TacticsInMore
import Derived.LoopNIn
import Derived.LoopIn
import Derived.Deep.CutBlock
namespace Go.Proofs.Ytopfknikmhkaeaa
open Go.RowKit
set_option linter.unusedSimpArgs false
set_option linter.unusedVariables false
attribute [local go_sem] Oper.semAt_some
/-- The step of pagesR at one key. -/
def pgAt (q : List (Int × Pg)) (lo hi n : Int) : Option (Int × Pg) := if lo ≤ n ∧ n < hi then (alGet q n).map (fun x => (n, x)) else none
set_option maxRecDepth 100000 in
set_option maxHeartbeats 4000000 in
theorem page1_in {b m qb pm : Nat} {most f n0 : Int} {q : List (Int × Pg)} {L : List (Int × Ent)} (B0 : Nat) (D : Nat → Prop) (nf lp bx bi bl bh : Nat) (id lo hi : Int) (J Jx : List (Int × Pg) → World → Prop)
    (hY : ∀ pre x W, J pre W → pre.length < (pagesR q lo hi).length → YieldAt Fence.wide (nf - 1) Try.prog lp #[.int .i64 x.1, pgV x.2] W fun e W' =>
      (e = .returned (.bool true) ∧ J (pre ++ [x]) W' ∧ K3 B0 D W W') ∨ (e = .returned (.bool false) ∧ Jx (pre ++ [x]) W'))
    (W : World) (h : OT W b m most L) (he : alGet L id = some (qb, pm, f, n0, q)) (hn : (q.map (·.1)).Nodup) (hk : ObKeys q)
    (ox : ob W bx = some (.cells #[.pointer (some ⟨b, 0, none⟩)] 24 (0, 0))) (oi : ob W bi = some (.cells #[.int .i64 id] 3 (0, 0)))
    (ol : ob W bl = some (.cells #[.int .i64 lo] 3 (0, 0))) (oh : ob W bh = some (.cells #[.int .i64 hi] 3 (0, 0)))
    (hB : ∀ k, k = qb ∨ k = pm ∨ k = bl ∨ k = bh → k < B0 ∧ ¬ D k) (hD : ∀ k, D k → k < W.heap.size)
    (hJ : AbidesFrom W.heap.size J) (h0 : J [] W) :
    CallsIn Fence.wide nf Try.prog 36 #[.func (.yield lp) #[] #[], .pointer (some ⟨bx, 0, none⟩), .pointer (some ⟨bi, 0, none⟩), .pointer (some ⟨bl, 0, none⟩), .pointer (some ⟨bh, 0, none⟩)] W fun e W' => (∃ v, e = .returned v) ∧
      ((∃ ys, ys = pagesR q lo hi ∧ J ys W') ∨ (∃ pre, pre <+: pagesR q lo hi ∧ Jx pre W')) := by
  have cx := cell_of_ob ox 0
  have ci := cell_of_ob oi 0
  obtain ⟨hq, hpm⟩ := h.one id _ he
  dsimp only at hq hpm
  have hql := ob_lt hq
  have d2 : W.cell? ⟨qb, 2, none⟩ = some (.map (some pm)) := cell_of_ob hq 2
  have hof := of_any h id (some qb) (by rw [he]; rfl)
  have hso := sortedB_call hpm hn hk
  have hlen := idsOf_len q
  obtain ⟨ss, hss⟩ : ∃ ss, idsOf q = ss := ⟨_, rfl⟩
  have hpg : pagesR q lo hi = ss.filterMap (pgAt q lo hi) := by unfold pagesR; rw [hss]; rfl
  rw [hpg] at hY ⊢
  rw [hss] at hso hlen
  have hfew := hk.few
  clear hss hpg hk hn he
  refine callsIn_of_wp Try.func36 rfl trivial ?_ rfl
  simp only [Try.ntmps36, List.size_toArray, List.length_cons, List.length_nil, Nat.reduceAdd, Nat.reduceSub, Array.replicate_succ, Array.replicate_zero, List.push_toArray, List.append_toArray, List.nil_append, List.cons_append]
  refine wpIn_wide.2 ?_
  go_wp2_with fail
  refine hof.mono ?_
  rintro e v ⟨rfl, hv⟩
  rw [← hv]
  clear hv v
  simp only [ptrV, Option.map_some]
  go_wp2_with fail
  refine (keysB_call pm W).mono ?_
  rintro e v ⟨rfl, hv⟩
  rw [hv]
  clear hv v
  go_wp2_with fail
  refine hso.mono ?_
  rintro e w2 ⟨A, N, C, rfl, hs2, ho2, hf2⟩
  have hN : N = ss.length := by have := hs2.len; simp only [List.length_map, sliceLen] at this; omega
  have HN := Lib.hid hN
  have hN4 : N ≤ 4096 := by rw [hN, hlen]; exact hfew
  have hJ2 : J [] w2 := hJ [] W w2 none h0 (fr_grown hf2) (fun r e => by cases e)
  have HO := Lib.hid ho2
  have HQ := Lib.hid (show ∀ k o, (k < B0 ∧ ¬ D k) → ob W k = some o → ob w2 k = some o from fun k o _ ho => hf2.keep (fun h => h) ho)
  clear hN hof hso cx ci d2
  go_wp2_with fail
  go_loopw [23] (fun si wr => ∃ t : Nat, t ≤ N ∧ si = .int .i64 t ∧ J ((ss.take t).filterMap (pgAt q lo hi)) wr ∧ Sl wr 3 1 (.slice A N C) (ints ss) ∧ Hid (W.heap.size ≤ wr.heap.size ∧ ∀ k o, (k < B0 ∧ ¬ D k) → ob W k = some o → ob wr k = some o)) (fun si _ => N - (intOf si).toNat)
  case atStart => exact ⟨0, Nat.zero_le _, rfl, hJ2, hs2, Lib.hid ⟨hf2.size, HQ.out⟩⟩
  case round =>
    obtain ⟨t, ht, rfl, hJr, hsr, HK⟩ := hrel
    by_cases hlt : t < N
    · obtain ⟨k, hkk⟩ : ∃ k, ss[t]? = some k := ⟨_, List.getElem?_eq_getElem (by have := HN.out; omega)⟩
      have hki : (ints ss)[t]? = some (.int .i64 k) := by rw [List.getElem?_map, hkk]; rfl
      obtain ⟨g, off, n', cap', heq, hgl, hcs, -, -⟩ := hsr.form (by intro e; rw [e] at hki; cases hki)
      cases heq
      have c0 := hcs t _ hki
      have rq := HK.out.2 qb _ (hB qb (.inl rfl)) hq
      have rl := HK.out.2 bl _ (hB bl (.inr (.inr (.inl rfl)))) ol
      have rh := HK.out.2 bh _ (hB bh (.inr (.inr (.inr rfl)))) oh
      have rpm : MapIs ik pgV wr pm q := hpm.of (by obtain ⟨es, c, ho, _⟩ := hpm; rw [ho]; exact HK.out.2 pm _ (hB pm (.inr (.inl rfl))) ho)
      have cq : wr.cell? ⟨qb, 2, none⟩ = some (.map (some pm)) := cell_of_ob rq 2
      have cl := cell_of_ob rl 0
      have ch := cell_of_ob rh 0
      have sq := ob_lt rq
      have sl := ob_lt rl
      have sh := ob_lt rh
      have HT := Lib.hid (show (ss.take (t + 1)).filterMap (pgAt q lo hi) = (ss.take t).filterMap (pgAt q lo hi) ++ (pgAt q lo hi k).toList by
        rw [List.take_add_one, hkk, List.filterMap_append]
        simp only [Option.toList_some, List.filterMap_cons, List.filterMap_nil]
        cases pgAt q lo hi k <;> rfl)
      obtain ⟨r, hr⟩ : ∃ r, (alGet q k).getD (0, 0, false) = r := ⟨_, rfl⟩
      obtain ⟨ok, hok⟩ : ∃ ok, (alGet q k).isSome = ok := ⟨_, rfl⟩
      have hat : pgAt q lo hi k = if (lo ≤ k ∧ k < hi) ∧ ok = true then some (k, r) else none := by
        unfold pgAt
        rw [← hr, ← hok]
        cases alGet q k <;> by_cases hc : lo ≤ k ∧ k < hi <;> simp [hc]
      have HAT := Lib.hid hat
      have HR := Lib.hid hr
      have HOK := Lib.hid hok
      obtain ⟨x1, x2, x3⟩ := r
      have hpfx : (ss.take (t + 1)).filterMap (pgAt q lo hi) <+: ss.filterMap (pgAt q lo hi) := (List.take_prefix _ _).filterMap _
      have HP := Lib.hid hpfx
      have hfa : Fr (fun _ => False) wr (wr.alloc (.cells #[.int .i64 x1, .int .i64 x2, .bool x3] 34)) := (Fr.refl _ _).alloc _
      have hJa : J ((ss.take t).filterMap (pgAt q lo hi)) (wr.alloc (.cells #[.int .i64 x1, .int .i64 x2, .bool x3] 34)) := hJ _ wr _ none hJr (fr_grown hfa) (fun r e => by cases e)
      have hKa : Hid (W.heap.size ≤ (wr.alloc (.cells #[.int .i64 x1, .int .i64 x2, .bool x3] 34)).heap.size ∧ ∀ k o, (k < B0 ∧ ¬ D k) → ob W k = some o → ob (wr.alloc (.cells #[.int .i64 x1, .int .i64 x2, .bool x3] 34)) k = some o) := Lib.hid ⟨Nat.le_trans HK.out.1 hfa.size, fun k o h1 h2 => hfa.keep (fun h => h) (HK.out.2 k o h1 h2)⟩
      have hsa := hsr.alloc (.cells #[.int .i64 x1, .int .i64 x2, .bool x3] 34)
      clear hkk hki hcs hat hr hok hpfx rq rl rh hs2 hJr hsr ho2 h ox oi hlen
      by_cases hc : (lo ≤ k ∧ k < hi) ∧ ok = true
      · obtain ⟨⟨hlo, hhi⟩, rfl⟩ := hc
        have hat2 : pgAt q lo hi k = some (k, (x1, x2, x3)) := by rw [HAT.out, if_pos ⟨⟨hlo, hhi⟩, rfl⟩]
        have hT2 : (ss.take (t + 1)).filterMap (pgAt q lo hi) = (ss.take t).filterMap (pgAt q lo hi) ++ [(k, (x1, x2, x3))] := by rw [HT.out, hat2]; rfl
        have HT2 := Lib.hid hT2
        obtain ⟨fn, tmps, assign, body, hy, hRR⟩ := hY _ (k, (x1, x2, x3)) _ hJa (by have := HP.out.length_le; rw [hT2] at this; simp at this; omega)
        simp only [pgV] at hy
        clear hat2 hT2 hY
        go_upto_region 6 with (at_lookup; go_must (refine wpList_look2 rfl _ _ _ rfl rfl k rfl key_ik Try.underlying72 (0, 0, false) zeroPg (rpm.of rfl) (x1, x2, x3) true HR.out HOK.out ?_; simp only [pgV]))
        refine (wpIn_wide (n := nf)).1 ?_
        gi_wp2
        refine ⟨(fun h => Bool.noConfusion h), ?_⟩
        refine hRR.mono ?_
        rintro e W3 (⟨rfl, hJ3, hk3⟩ | ⟨rfl, hJx3⟩)
        · have hs3 : Sl W3 3 1 (.slice (some ⟨g, off, none⟩) N C) (ints ss) := hk3.k2.sl hsa (fun k hk hd => by have := HO.out k hk; have := hD k hd; omega)
          have HK3 : Hid (W.heap.size ≤ W3.heap.size ∧ ∀ k o, (k < B0 ∧ ¬ D k) → ob W k = some o → ob W3 k = some o) := Lib.hid ⟨Nat.le_trans hKa.out.1 hk3.k2.size, fun k o h1 h2 => hk3.low k o h1.1 h1.2 (hKa.out.2 k o h1 h2)⟩
          rw [← HT2.out] at hJ3
          clear hRR hy hk3 hJa hKa hsa
          gi_wp2
          go_wp2
          go_roundw
          case rel => exact ⟨t + 1, by omega, by go_num, hJ3, hs3, HK3⟩
          case measure => simp [intOf]; omega
        · have hpx := HP.out
          rw [HT2.out] at hpx
          have HPX := Lib.hid hpx
          clear hRR hy hJa hKa hsa hpx
          gi_wp2
          go_wp2
          refine bodyPost_ret (results_none rfl _ _ _) rfl ?_
          exact ⟨⟨_, rfl⟩, .inr ⟨_, HPX.out, hJx3⟩⟩
      · have hat2 : pgAt q lo hi k = none := by rw [HAT.out, if_neg hc]
        have hT2 : (ss.take (t + 1)).filterMap (pgAt q lo hi) = (ss.take t).filterMap (pgAt q lo hi) := by rw [HT.out, hat2]; simp
        have HT2 := Lib.hid hT2
        clear hat2 hT2 hY
        by_cases hlo : lo ≤ k
        · by_cases hhi : k < hi
          · obtain rfl : ok = false := by cases ok with | false => rfl | true => exact absurd ⟨⟨hlo, hhi⟩, rfl⟩ hc
            clear hc
            go_wp2_with (at_lookup; go_must (refine wpList_look2 rfl _ _ _ rfl rfl k rfl key_ik Try.underlying72 (0, 0, false) zeroPg (rpm.of rfl) (x1, x2, x3) false HR.out HOK.out ?_; simp only [pgV]))
            go_roundw
            case rel => exact ⟨t + 1, by omega, by go_num, by rw [HT2.out]; exact hJa, hsa, hKa⟩
            case measure => simp [intOf]; omega
          · clear hc
            go_wp2_with (at_lookup; go_must (refine wpList_look2 rfl _ _ _ rfl rfl k rfl key_ik Try.underlying72 (0, 0, false) zeroPg (rpm.of rfl) (x1, x2, x3) ok HR.out HOK.out ?_; simp only [pgV]))
            go_roundw
            case rel => exact ⟨t + 1, by omega, by go_num, by rw [HT2.out]; exact hJa, hsa, hKa⟩
            case measure => simp [intOf]; omega
        · clear hc
          go_wp2_with (at_lookup; go_must (refine wpList_look2 rfl _ _ _ rfl rfl k rfl key_ik Try.underlying72 (0, 0, false) zeroPg (rpm.of rfl) (x1, x2, x3) ok HR.out HOK.out ?_; simp only [pgV]))
          go_roundw
          case rel => exact ⟨t + 1, by omega, by go_num, by rw [HT2.out]; exact hJa, hsa, hKa⟩
          case measure => simp [intOf]; omega
    · obtain rfl : t = N := by omega
      have hall : ss.take t = ss := by rw [HN.out, List.take_length]
      rw [hall] at hJr
      clear hall
      go_wp2
      go_end0
      exact ⟨⟨_, rfl⟩, .inl ⟨_, rfl, hJr⟩⟩
theorem page1_stops {b m qb pm : Nat} {most f n0 : Int} {q : List (Int × Pg)} {L : List (Int × Ent)} (D : Nat → Prop) (nf bx bi bl bh : Nat) (id lo hi : Int)
    (w : World) (h : OT w b m most L) (he : alGet L id = some (qb, pm, f, n0, q)) (hn : (q.map (·.1)).Nodup) (hk : ObKeys q)
    (ox : ob w bx = some (.cells #[.pointer (some ⟨b, 0, none⟩)] 24 (0, 0))) (oi : ob w bi = some (.cells #[.int .i64 id] 3 (0, 0)))
    (ol : ob w bl = some (.cells #[.int .i64 lo] 3 (0, 0))) (oh : ob w bh = some (.cells #[.int .i64 hi] 3 (0, 0)))
    (hB : ∀ k, k = qb ∨ k = pm ∨ k = bl ∨ k = bh → ¬ D k) (hD : ∀ k, D k → k < w.heap.size) :
    SeqStopsK Fence.wide nf Try.prog 36 #[.pointer (some ⟨bx, 0, none⟩), .pointer (some ⟨bi, 0, none⟩), .pointer (some ⟨bl, 0, none⟩), .pointer (some ⟨bh, 0, none⟩)] (fun x : Int × Pg => #[.int .i64 x.1, pgV x.2]) (K3 w.heap.size D) (fun ys => ys = pagesR q lo hi) (fun pre => pre <+: pagesR q lo hi) (pagesR q lo hi).length w :=
  fun l J Jx W hW hJ hJx hY h0 => by
    have hf : Fr (fun _ => False) w W := Fr.of_below hW
    obtain ⟨hq, hpm⟩ := h.one id _ he
    refine page1_in w.heap.size D nf l bx bi bl bh id lo hi J Jx hY W (h.keep hf) he hn hk (hf.keep (fun h => h) ox) (hf.keep (fun h => h) oi) (hf.keep (fun h => h) ol) (hf.keep (fun h => h) oh) (fun k hk => ⟨?_, hB k hk⟩) (fun k hk => Nat.lt_of_lt_of_le (hD k hk) hf.size) hJ h0
    rcases hk with rfl | rfl | rfl | rfl
    · exact ob_lt hq
    · exact hpm.lt
    · exact ob_lt ol
    · exact ob_lt oh
end Go.Proofs.Ytopfknikmhkaeaa
