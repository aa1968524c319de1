/- TlbAsids: what is flushed of one space leaves the others', in their order. No conditions. -/
import Derived.Test.YtehgfhcpjeepkaaTabF
import Derived.Test.YtehgfhcpjeepkaaOpen
namespace Go.Proofs.Ytehgfhcpjeepkaa
open Go.RowKit
set_option linter.unusedSimpArgs false
set_option linter.unusedVariables false
def neKey (a b c d : Int) : Sem Value := binOp .neq 27 (.agg #[.int .i64 a, .int .i64 b]) (.agg #[.int .i64 c, .int .i64 d])
@[go_sem high] theorem to_neKey (a b c d : Int) : binOp .neq 27 (.agg #[.int .i64 a, .int .i64 b]) (.agg #[.int .i64 c, .int .i64 d]) = neKey a b c d := rfl
@[go_sem] theorem run_neKey (a b c d : Int) (w : World) : (neKey a b c d).run Try.prog w = .ok (.bool (!k2eq a b c d)) w := by
  change Sem.run Try.prog (Op.equalIn 10000 27 _ _ >>= _) w = _
  rw [Sem.run_bind, eqin_key]
  rfl
/-- Two numbers are a key. -/
theorem leaf_k2 (cs : List Value) (h : leafAll [.int .i64, .int .i64] cs) : ∃ x : K2, k2s x = cs ∧ True := by
  obtain ⟨hl, h⟩ := h
  obtain ⟨a, ha, m, rfl, _⟩ := h 0 _ rfl
  obtain ⟨b, hb, n, rfl, _⟩ := h 1 _ rfl
  match cs, hl, ha, hb with
  | [_, _], _, rfl, rfl => exact ⟨(m, n), rfl, trivial⟩
theorem tput_len1 (n : Int) (l : List (K2 × K2)) (k e : K2) : (tput n l k e).length ≤ l.length + 1 := by
  unfold tput
  have := alSet_length l k e
  split
  · rw [List.length_tail, this]; split <;> omega
  · rw [this]; split <;> omega
/-- The cells of one key of a row. -/
theorem Rd.key {w : World} {v : Value} {xs : List K2} (h : Rd w 2 v (xs.flatMap k2s)) {j : Nat} {x : K2} (hx : xs[j]? = some x) :
    ∃ g off n cap, v = .slice (some ⟨g, off, none⟩) n cap ∧ g < w.heap.size ∧ w.cell? ⟨g, off + j * 2, none⟩ = some (.int .i64 x.1) ∧ w.cell? ⟨g, off + j * 2 + 1, none⟩ = some (.int .i64 x.2) := by
  obtain ⟨hg0, hg1⟩ := flat_get xs j x hx
  obtain ⟨g, off, n', cap', heq, hgl, hcs, _⟩ := h.form (by intro e; rw [e] at hg0; cases hg0)
  exact ⟨g, off, n', cap', heq, hgl, hcs _ _ hg0, by rw [Nat.add_assoc]; exact hcs _ _ hg1⟩
theorem flushAsidF {W1 w : World} {b m : Nat} {n : Int} {l : List (K2 × K2)} (h : TabX W1 w b n m l) (x : Int) :
    Calls Try.prog 11 #[.pointer (some ⟨b, 0, none⟩), .int .i64 x] w fun e w' =>
      e = .returned (.int .i64 (l.length - (l.filter (fun y => !(y.1.1 == x))).length)) ∧ TabX W1 w' b n m (l.filter (fun y => !(y.1.1 == x))) ∧ Fr (fun k => k = b ∨ k = m) w w' := by
  obtain ⟨kv, h1, h2, h3, h4, h5⟩ := id h
  refine (flushAsid_any h1 h4 (by omega) x).mono ?_
  rintro e w' ⟨rfl, hf⟩
  exact ⟨rfl, h.flushed hf (nodup_filter h4) (Nat.le_trans (List.length_filter_le _ _) h5), hf.choose_spec.2.1⟩
set_option maxHeartbeats 4000000 in
theorem asids_walk (w : World) (A : Option Addr) (N C : Nat) (x : Int) (xs : List K2) (hxs : Rd w 2 (.slice A N C) (xs.flatMap k2s)) (hN : N = xs.length) :
    Calls Try.prog 4 #[.slice A N C, .int .i64 x] w fun e w' => e = .returned (.bool true) ∧ Fr (fun _ => False) w w' := by
  have HN := Lib.hid hN
  clear hN
  go_enter Try.func4, Try.ntmps4
  go_wp2_with fail
  refine (new_any 1024 (by omega) (by omega) w).mono ?_
  rintro e w1 ⟨b, m, rfl, hT, hf1, hb, hm⟩
  have hX := TabX.new hT
  clear hT
  by_cases h2 : 200 < N
  · go_wp2_with fail
    refine (lives_any _).mono ?_
    rintro e w7 ⟨rfl, hf7⟩
    go_wp2
    go_ret
    exact ⟨rfl, hf1.step hf7 (fun _ h => h.elim)⟩
  have hN2 : N ≤ 200 := by omega
  go_wp2_with fail
  go_loopw [29] (fun i wr => ∃ (j : Nat) (l : List (K2 × K2)), j ≤ N ∧ i = .int .i64 j ∧ TabX w1 wr b 1024 m l ∧ l.length ≤ j) (fun i _ => N - (intOf i).toNat)
  case atStart => exact ⟨0, [], by omega, rfl, hX, by simp⟩
  case round =>
    obtain ⟨j, l, hj, rfl, hx, hlj⟩ := hrel
    by_cases hlt : j < N
    · obtain ⟨k, hk⟩ : ∃ k, xs[j]? = some k := ⟨_, List.getElem?_eq_getElem (by have := HN.out; omega)⟩
      have hfx := hx.fr
      have hxr := hxs.of (hf1.step hfx (S := fun _ => False) (fun k hk => .inr (by rcases hk with rfl | rfl <;> omega))) (fun _ h => h.elim)
      obtain ⟨g, off, n', cap', heq, hgl, hc0, hc1⟩ := hxr.key hk
      cases heq
      have HK := Lib.hid hk
      clear hk hxr
      go_wp2_with fail
      refine (putX (hx.alloc _) k (0, j) ?_).mono ?_
      · have := tput_len1 1024 l k (0, j); omega
      rintro e w2 ⟨rfl, hx2⟩
      go_wp2
      go_roundw
      case rel => exact ⟨j + 1, _, by omega, by go_num, hx2, by have := tput_len1 1024 l k (0, j); omega⟩
      case measure => simp [intOf]; omega
    · obtain rfl : j = N := by omega
      clear hxs
      go_wp2_with fail
      refine (keysX hx).mono ?_
      rintro e w2 ⟨v', rfl, hsl, hx2, hf2, hown⟩
      have hlen := hsl.len
      rw [len_flat, List.length_map] at hlen
      obtain ⟨A', L, C', rfl⟩ : ∃ A L C, v' = .slice A L C := by
        rcases hsl with ⟨rfl, _⟩ | ⟨g, off, n, cap, row, rfl, _⟩ <;> exact ⟨_, _, _, rfl⟩
      simp only [sliceLen] at hlen
      have hL : L = l.length := by omega
      have hL2 : L ≤ 200 := by omega
      have HL := Lib.hid hL
      clear hlen hL
      go_wp2_with fail
      obtain ⟨p, hpx⟩ : ∃ p : K2 → Bool, p = fun k => k.1 == x := ⟨_, rfl⟩
      have HP := Lib.hid hpx
      clear hpx
      go_loopw [8, 9, 43] (fun want gone i wr => ∃ q : Nat, q ≤ L ∧ i = .int .i64 q ∧ (∃ gn : Int, gone = .int .i64 gn ∧ gn = (q : Int) - ((keysAt p l q).length : Int)) ∧ Sl wr 27 2 want ((keysAt p l q).flatMap k2s) ∧ (∀ k, want.ownBlock = some k → w2.heap.size ≤ k) ∧ Fr (fun _ => False) w2 wr)
        (fun _ _ i _ => L - (intOf i).toNat)
      case atStart => exact ⟨0, by omega, rfl, ⟨0, rfl, by simp [keysAt]⟩, Sl.nil _ _ _, (fun k hk => by cases hk), Fr.refl _ _⟩
      case round =>
        obtain ⟨q, hq, rfl, ⟨gn, rfl, hgn⟩, hwant, hown2, hfr⟩ := hrel
        have HGN := Lib.hid hgn
        have hkl : (keysAt p l q).length ≤ q := by unfold keysAt; rw [List.length_map]; exact Nat.le_trans (List.length_filter_le _ _) (by simp; omega)
        have hgb : 0 ≤ gn ∧ gn ≤ q := by omega
        obtain ⟨hgb0, hgb1⟩ := hgb
        clear hgn
        by_cases hqL : q < L
        · obtain ⟨y, hy⟩ : ∃ y, l[q]? = some y := ⟨_, List.getElem?_eq_getElem (by have := HL.out; omega)⟩
          obtain ⟨hg0, hg1⟩ := flat_get (l.map (·.1)) q y.1 (by simp [hy])
          obtain ⟨g, off, n', cap', heq, hgl, hcs, hfz, _⟩ := (hsl.fr hfr (fun _ _ h => h)).form (by intro e; rw [e] at hg0; cases hg0)
          cases heq
          have hc0 := hcs _ _ hg0
          have hc1 := hcs _ _ hg1
          rw [← Nat.add_assoc] at hc1
          have HK := Lib.hid (keysAt_succ p l q y hy)
          have hlen : sliceLen u8 ≤ 1000 := by
            have h1 := hwant.len
            rw [len_flat] at h1
            omega
          obtain ⟨i0, hi, hz, hs, hby⟩ := info_of zeroKey
          clear hy hg0 hg1 hcs hfz
          by_cases hp : y.1.1 = x
          · have hp' : p y.1 = true := by rw [HP.out]; simp [hp]
            go_wp2_with fail
            go_roundw
            case rel =>
              refine ⟨q + 1, by omega, by go_num, ⟨gn + 1, rfl, ?_⟩, ?_, hown2, hfr.alloc _⟩
              · rw [HK.out, if_pos hp', HGN.out]; omega
              · rw [HK.out, if_pos hp']; exact hwant.alloc _
            case measure => simp [intOf]; omega
          · have hp' : ¬ p y.1 = true := by rw [HP.out]; simp [hp]
            go_wp2_with (at_builtin; go_must (refine wpList_app (v := u8) rfl _ _ _ rfl Try.underlying30 hi hz hs hby rfl (by decide) rfl ((hwant.alloc _).alloc _) (wr.heap.size + 1) 1 1 [.int .i64 y.1.1, .int .i64 y.1.2] rfl (ob_newAt _ _ _ (by simp)) rfl (by simp [Value.oneCell']) (by decide) (by simp only [maxLen]; omega) (by omega) ?_; intro v2 w3 hs2 hf3 ho2 hl2))
            go_wp2
            go_roundw
            case rel =>
              refine ⟨q + 1, by omega, by go_num, ⟨gn, rfl, ?_⟩, ?_, ?_, ?_⟩
              · rw [HK.out, if_neg hp', HGN.out]; simp; omega
              · rw [HK.out, if_neg hp', List.flatMap_append]; exact hs2
              · intro k hk
                rcases ho2 with ho2 | ⟨r, ho2, hr⟩
                · exact hown2 k (ho2 ▸ hk)
                · rw [ho2] at hk; cases hk; simp at hr; have := hfr.size; omega
              · exact ((hfr.alloc _).alloc _).step hf3 (fun k hk => .inr (hown2 k hk))
            case measure => simp [intOf]; omega
        · obtain rfl : q = L := by omega
          have hx3 := hx2.keep hfr
          have hall : keysAt p l q = (l.filter (fun y => !(y.1.1 == x))).map (·.1) := by rw [HL.out, keysAt_all, HP.out]
          rw [hall] at hwant
          have hgn := HGN.out
          rw [hall, List.length_map, HL.out] at hgn
          clear hall HGN
          obtain ⟨l2, hl2⟩ : ∃ l2, l2 = l.filter (fun y => !(y.1.1 == x)) := ⟨_, rfl⟩
          have hll : l2.filter (fun y => !(y.1.1 == x)) = l2 := by rw [hl2, List.filter_filter]; simp
          rw [← hl2] at hwant hgn
          have HGN := Lib.hid hgn
          have HL2 := Lib.hid hl2
          have HLL := Lib.hid hll
          obtain ⟨A2, N2, C2, rfl⟩ : ∃ A N C, u8 = .slice A N C := by
            rcases hwant with ⟨rfl, _⟩ | ⟨g, off, n, cap, row, rfl, _⟩ <;> exact ⟨_, _, _, rfl⟩
          have hn2 := hwant.len
          rw [len_flat, List.length_map] at hn2
          simp only [sliceLen] at hn2
          have hn3 : N2 = l2.length := by omega
          have hn4 : N2 ≤ 200 := by omega
          have HN2 := Lib.hid hn3
          have hbw := hx3.fr.size
          have hb3 : b < w2.heap.size := let ⟨_, h, _⟩ := hx2; h.lt
          have hm3 : m < w2.heap.size := let ⟨_, h, _⟩ := hx2; h.mlt
          clear hgn hl2 hll hn2 hn3
          go_wp2_with fail
          refine (flushAsidF hx3 x).mono ?_
          rw [← HL2.out, ← HGN.out]
          rintro e w4 ⟨rfl, hx4, hf4⟩
          go_wp2_with fail
          refine (lenX hx4).mono ?_
          rw [← HN2.out]
          rintro e w6 ⟨rfl, rfl⟩
          go_wp2_with fail
          refine (flushAsidF hx4 x).mono ?_
          rw [HLL.out, Int.sub_self]
          rintro e w5 ⟨rfl, hx5, hf5⟩
          go_wp2_with fail
          refine (keysX hx5).mono ?_
          rintro e w6 ⟨v6, rfl, hs6, hx6, hf6, ho6⟩
          have hw6 : Sl w6 27 2 (.slice A2 N2 C2) ((l2.map (·.1)).flatMap k2s) :=
            ((hwant.fr hf4 (fun k hk e => by have := hown2 k hk; rcases e with e | e <;> omega)).fr hf5 (fun k hk e => by have := hown2 k hk; rcases e with e | e <;> omega)).fr hf6 (fun _ _ h => h)
          obtain ⟨A6, N6, C6, rfl⟩ : ∃ A N C, v6 = .slice A N C := by
            rcases hs6 with ⟨rfl, _⟩ | ⟨g, off, n, cap, row, rfl, _⟩ <;> exact ⟨_, _, _, rfl⟩
          obtain rfl : N6 = N2 := by
            have := hs6.len
            rw [len_flat, List.length_map] at this
            simp only [sliceLen] at this
            have := HN2.out
            omega
          go_wp2_with fail
          go_loopw [79] (fun i wr => ∃ j : Nat, j ≤ N6 ∧ i = .int .i64 j ∧ Fr (fun _ => False) w6 wr) (fun i _ => N6 - (intOf i).toNat)
          case atStart => exact ⟨0, by omega, rfl, Fr.refl _ _⟩
          case round =>
            obtain ⟨j, hj, rfl, hfj⟩ := hrel
            by_cases hjN : j < N6
            · obtain ⟨y, hy⟩ : ∃ y, l2[j]? = some y := ⟨_, List.getElem?_eq_getElem (by have := HN2.out; omega)⟩
              obtain ⟨hg0, hg1⟩ := flat_get (l2.map (·.1)) j y.1 (by simp [hy])
              obtain ⟨g, off, n', cap', heq, hgl, hcs, hfz, _⟩ := (hs6.fr hfj (fun _ _ h => h)).form (by intro e; rw [e] at hg0; cases hg0)
              cases heq
              have hc0 := hcs _ _ hg0
              have hc1 := hcs _ _ hg1
              rw [← Nat.add_assoc] at hc1
              obtain ⟨g', off', n', cap', heq, hgl', hcs', hfz', _⟩ := (hw6.fr hfj (fun _ _ h => h)).form (by intro e; rw [e] at hg0; cases hg0)
              cases heq
              have hc0' := hcs' _ _ hg0
              have hc1' := hcs' _ _ hg1
              rw [← Nat.add_assoc] at hc1'
              clear hy hg0 hg1 hcs hfz hcs' hfz'
              have hk1 : k2eq y.1.1 y.1.2 y.1.1 y.1.2 = true := by simp [k2eq]
              go_wp2_with fail
              refine wp_region_canon [1, 2, 3, 0, 4, 5] (by kernel_rfl) (by kernel_rfl) (fun K hK => ?_)
              simp only [List.map_cons, List.map_nil, List.getD_cons_succ, List.getD_cons_zero]
              go_wp2
              refine hK _ _ (by kernel_rfl) ?_
              clear hK K
              go_wp2
              go_roundw
              case rel => exact ⟨j + 1, by omega, by go_num, (hfj.alloc _).drew⟩
              case measure => simp [intOf]; omega
            · have hx7 := hx6.keep hfj
              go_wp2_with fail
              refine (flushAllX hx7).mono ?_
              rw [← HN2.out]
              rintro e w7 ⟨rfl, hx8⟩
              go_wp2_with fail
              refine (lenX hx8).mono ?_
              rintro e w9 ⟨rfl, rfl⟩
              go_wp2_with fail
              refine (lives_any _).mono ?_
              rintro e w10 ⟨rfl, hf10⟩
              go_wp2
              go_ret
              exact ⟨rfl, (hf1.step hx8.fr (fun k hk => by rcases hk with rfl | rfl <;> omega)).step hf10 (fun _ h => h.elim)⟩
end Go.Proofs.Ytehgfhcpjeepkaa
