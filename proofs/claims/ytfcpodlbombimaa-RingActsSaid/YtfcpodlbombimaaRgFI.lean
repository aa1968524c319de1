/- ring.Rows[int]: All's closure, for every loop body that leaves the copy as it is; First. No conditions. -/
import Derived.Test.YtfcpodlbombimaaRgEI
import Derived.Test.YtfcpodlbombimaaSeq
import Derived.WalkKit
import Derived.OwnWalkIn
import Derived.TacticsInMore
import Derived.LoopNIn
import Derived.LoopIn
namespace Go.Proofs.Ytfcpodlbombimaa
open Go.RowKit
set_option linter.unusedSimpArgs false
set_option linter.unusedVariables false
attribute [local go_sem] Oper.semAt_some
theorem allI_any (v : Option Addr) (n : Int) (w : World) : Calls Try.prog 16 #[.pointer v, .int .i64 n] w fun e w' => e = .returned (.func (.func 41) #[] #[.pointer (some ⟨w.heap.size, 0, none⟩), .pointer (some ⟨w.heap.size + 1, 0, none⟩)]) ∧ w' = (w.alloc (.cells #[.pointer v] 24)).alloc (.cells #[.int .i64 n] 3) := by
  go_enter Try.func16, Try.ntmps16
  go_wp2
  go_ret
  exact ⟨rfl, rfl⟩
set_option maxRecDepth 100000 in
set_option maxHeartbeats 4000000 in
theorem all1I_in {b r m : Nat} {vs : List Value} {L : List (List Int)} {Wm : List (Int × Int)} (D : World → Nat → Prop) (nf lp bx bi : Nat) (n : Int) (J Jx : List Int → World → Prop)
    (hY : ∀ pre x W, J pre W → pre.length < (rowAtI L n).length → YieldAt Fence.wide (nf - 1) Try.prog lp #[Value.int .i64 x] W fun e W' =>
      (e = .returned (.bool true) ∧ J (pre ++ [x]) W' ∧ K2 D W W') ∨ (e = .returned (.bool false) ∧ Jx (pre ++ [x]) W'))
    (W : World) (h : RTI W b r m vs L Wm) (hg : ∀ l ∈ L, l.length ≤ 5000) (ox : ob W bx = some (.cells #[.pointer (some ⟨b, 0, none⟩)] 24 (0, 0))) (oi : ob W bi = some (.cells #[.int .i64 n] 3 (0, 0)))
    (hJ : AbidesFrom W.heap.size J) (hD : ∀ W1 k, Fr (fun _ => False) W W1 → W.heap.size ≤ k → ¬ D W1 k) (h0 : J [] W) :
    CallsIn Fence.wide nf Try.prog 41 #[.func (.yield lp) #[] #[], .pointer (some ⟨bx, 0, none⟩), .pointer (some ⟨bi, 0, none⟩)] W fun e W' => (∃ v, e = .returned v) ∧
      ((∃ ys, ys = rowAtI L n ∧ J ys W') ∨ (∃ pre, pre <+: rowAtI L n ∧ Jx pre W')) := by
  have cx := cell_of_ob ox 0
  have ci := cell_of_ob oi 0
  have his := isI_any h n
  by_cases hn : 0 ≤ n ∧ n < L.length
  · rw [decide_eq_true hn] at his
    obtain ⟨j, rfl⟩ : ∃ j : Nat, n = j := ⟨n.toNat, by omega⟩
    have hjL : j < L.length := by omega
    obtain ⟨l, A, N, C, hl, hv, hs, hN, c0, -, c1, fz, hf⟩ := h.at hjL
    rw [rowAtI_in hl] at hY ⊢
    have hl5 : l.length ≤ 5000 := hg l (List.mem_of_getElem? hl)
    clear hn hN fz c0 c1
    refine callsIn_of_wp Try.func41 rfl trivial ?_ rfl
    simp only [Try.ntmps41, List.size_toArray, List.length_cons, List.length_nil, Nat.reduceAdd, Nat.reduceSub, Array.replicate_succ, Array.replicate_zero, List.push_toArray, List.append_toArray, List.nil_append, List.cons_append]
    gi_wp2_with (refine ⟨trivial, (fun h => Bool.noConfusion h), ?_⟩; refine (callsIn_wide.2 his).mono ?_; rintro e w1 ⟨rfl, rfl⟩)
    have hcl := cloneI_any hs.drew hl5
    have key : ∀ w2, Fr (fun _ => False) w1 w2 → w2.cell? ⟨bx, 0, none⟩ = some (.pointer (some ⟨b, 0, none⟩)) ∧ w2.cell? ⟨bi, 0, none⟩ = some (.int .i64 j) ∧ w2.cell? ⟨b, 0, none⟩ = some (.slice (some ⟨r, 0, none⟩) L.length L.length) ∧ w2.cell? ⟨r, j, none⟩ = some (.slice A N C) := fun w2 h2 => by
      have p1 := h2.keep (fun h => h) ox
      have p2 := h2.keep (fun h => h) oi
      have p3 := h2.keep (fun h => h) h.blk
      have p4 := h2.keep (fun h => h) h.rows
      exact ⟨cell_of_ob p1 0, cell_of_ob p2 0, cell_of_ob p3 0, by rw [cell_of_ob p4]; simpa using hv⟩
    have KEY := Lib.hid key
    have hS0 := key w1 (Fr.refl _ _)
    clear key cx ci his
    refine wpIn_wide.2 ?_
    go_region_held3 (fun w' => w'.cell? ⟨bx, 0, none⟩ = some (.pointer (some ⟨b, 0, none⟩)) ∧ w'.cell? ⟨bi, 0, none⟩ = some (.int .i64 j) ∧ w'.cell? ⟨b, 0, none⟩ = some (.slice (some ⟨r, 0, none⟩) L.length L.length) ∧ w'.cell? ⟨r, j, none⟩ = some (.slice A N C)) (first | exact hS0 | assumption | go_keep)
      (first
        | (go_at_call 43; refine hcl.mono ?_; rintro e w2 ⟨v2, rfl, hs2, hf2, ho2⟩; obtain ⟨A2, N2, C2, rfl⟩ := hs2.shape; have hf3 := alsoI ((Fr.refl (fun _ => False) w1).drew) hf2; have hS1 := KEY.out w2 hf3))
    have hJ2 : J [] w2 := hJ [] w1 w2 none h0 (fr_grown hf3) (fun r e => by cases e)
    have hN2 : N2 = l.length := SKI.elen hs2
    have hD2 : ∀ k, (Value.slice A2 N2 C2).ownBlock = some k → ¬ D w2 k := fun k hk => hD w2 k hf3 (ho2 k hk)
    have HN := Lib.hid hN2
    have HD2 := Lib.hid hD2
    have hN5 : N2 ≤ 5000 := by omega
    clear hS0 hS1 KEY hcl ox oi hN2 hD2 hD h0 hl5 hf hf2 ho2 hjL h hs hl hv hg
    clear hJ
    gi_wp2
    gi_loopw [19] (fun i wr => ∃ k : Nat, k ≤ N2 ∧ i = .int .i64 k ∧ J (l.take k) wr ∧ SKI wr (.slice A2 N2 C2) l ∧ Hid (∀ g, (Value.slice A2 N2 C2).ownBlock = some g → ¬ D wr g))
      (fun i _ => N2 - (intOf i).toNat)
    case atStart => exact ⟨0, Nat.zero_le _, rfl, hJ2, hs2, HD2⟩
    case round =>
      obtain ⟨k, hk, rfl, hJs, hsr, HDr⟩ := hrel
      by_cases hlt : k < N2
      · obtain ⟨x, hx⟩ : ∃ x, l[k]? = some x := ⟨_, List.getElem?_eq_getElem (by have := HN.out; omega)⟩
        obtain ⟨g, off, n', cap', heq, hgl, -, -, d0⟩ := SKI.item hsr hx
        cases heq
        obtain ⟨fn, tmps, assign, body, hy, hR⟩ := hY _ x wr hJs (by rw [List.length_take]; have := HN.out; omega)
        have HT := Lib.hid (show l.take (k + 1) = l.take k ++ [x] by rw [List.take_add_one, hx]; rfl)
        have HP := Lib.hid (show l.take k ++ [x] <+: l by rw [← HT.out]; exact List.take_prefix _ _)
        clear hx hY
        gi_wp2
        refine ⟨(fun h => Bool.noConfusion h), ?_⟩
        refine hR.mono ?_
        rintro e W3 (⟨rfl, hJ3, hk3⟩ | ⟨rfl, hJx3⟩)
        · clear hR hy
          have hs3 : SKI W3 (.slice (some ⟨g, off, none⟩) N2 C2) l := hk3.sl hsr HDr.out
          have HD3 := Lib.hid (show ∀ g', (Value.slice (some ⟨g, off, none⟩) N2 C2).ownBlock = some g' → ¬ D W3 g' from fun g' h => hk3.off (Sl.lt hsr h) (HDr.out g' h))
          rw [← HT.out] at hJ3
          gi_wp2
          go_roundw
          case rel =>
            exact ⟨k + 1, by omega, by go_num, hJ3, hs3, HD3⟩
          case measure => simp [intOf]; omega
        · gi_wp2
          refine bodyPost_ret (results_none rfl _ _ _) rfl ?_
          exact ⟨⟨_, rfl⟩, .inr ⟨_, HP.out, hJx3⟩⟩
      · obtain rfl : k = N2 := by omega
        have hall : l.take k = l := by rw [HN.out, List.take_length]
        rw [hall] at hJs
        clear hall
        gi_wp2
        go_end0
        exact ⟨⟨_, rfl⟩, .inl ⟨_, rfl, hJs⟩⟩
  · rw [decide_eq_false hn] at his
    rw [rowAtI_out hn] at hY ⊢
    refine callsIn_of_wp Try.func41 rfl trivial ?_ rfl
    simp only [Try.ntmps41, List.size_toArray, List.length_cons, List.length_nil, Nat.reduceAdd, Nat.reduceSub, Array.replicate_succ, Array.replicate_zero, List.push_toArray, List.append_toArray, List.nil_append, List.cons_append]
    gi_wp2_with (refine ⟨trivial, (fun h => Bool.noConfusion h), ?_⟩; refine (callsIn_wide.2 his).mono ?_; rintro e w1 ⟨rfl, rfl⟩)
    refine bodyPost_ret (results_none rfl _ _ _) rfl ?_
    exact ⟨⟨_, rfl⟩, .inl ⟨_, rfl, h0⟩⟩
theorem all1I_stops {b r m : Nat} {vs : List Value} {L : List (List Int)} {Wm : List (Int × Int)} (D : World → Nat → Prop) (nf bx bi : Nat) (n : Int)
    (w : World) (h : RTI w b r m vs L Wm) (hg : ∀ l ∈ L, l.length ≤ 5000) (ox : ob w bx = some (.cells #[.pointer (some ⟨b, 0, none⟩)] 24 (0, 0))) (oi : ob w bi = some (.cells #[.int .i64 n] 3 (0, 0)))
    (hD : ∀ W1 k, Fr (fun _ => False) w W1 → w.heap.size ≤ k → ¬ D W1 k) :
    SeqStopsK Fence.wide nf Try.prog 41 #[.pointer (some ⟨bx, 0, none⟩), .pointer (some ⟨bi, 0, none⟩)] (fun x : Int => #[Value.int .i64 x]) (K2 D) (fun ys => ys = rowAtI L n) (fun pre => pre <+: rowAtI L n) (rowAtI L n).length w :=
  fun l J Jx W hW hJ hJx hY h0 => by
    have hf : Fr (fun _ => False) w W := Fr.of_below hW
    exact all1I_in D nf l bx bi n J Jx hY W (h.keep hf) hg (hf.keep (fun h => h) ox) (hf.keep (fun h => h) oi) hJ (fun W1 k h1 hk => hD W1 k (alsoI hf h1) (Nat.le_trans hf.size hk)) h0
end Go.Proofs.Ytfcpodlbombimaa
