/- RingLasts returns true: the walk. No conditions. -/
import Derived.Test.YtfcpodlbombimaaRgLastsP
namespace Go.Proofs.Ytfcpodlbombimaa
open Go.RowKit
set_option linter.unusedSimpArgs false
set_option linter.unusedVariables false
attribute [local go_sem] Oper.semAt_some
set_option maxRecDepth 100000 in
set_option maxHeartbeats 8000000 in
theorem lasts_walk (W : World) (A : Option Addr) (N C : Nat) (xs : List Int) (hx : RdI W (.slice A N C) xs) (most : Int) :
    Calls Try.prog 3 #[.slice A N C, .int .u64 most] W fun e w' => e = .returned (.bool true) ∧ Fr (fun _ => False) W w' := by
  have hN : N = xs.length := RdI.elen hx
  have HN := Lib.hid hN
  clear hN
  obtain ⟨W1, hW1⟩ : ∃ W1, W.alloc (.cells #[.int .u64 most] 23) = W1 := ⟨_, rfl⟩
  have hfa : Fr (fun _ => False) W W1 := by rw [← hW1]; exact (Fr.refl _ W).alloc _
  have om : ob W1 W.heap.size = some (.cells #[.int .u64 most] 23 (0, 0)) := by rw [← hW1]; exact ob_new _ _
  have hz1 : W1.heap.size = W.heap.size + 1 := by rw [← hW1]; simp
  obtain ⟨bm, hbm⟩ : ∃ bm, W.heap.size = bm := ⟨_, rfl⟩
  rw [hbm] at om hz1
  have hnew : Calls Try.prog 10 #[.int .i64 2] W1 _ := newI_rx 2 (by decide) (by decide) W1
  refine (callsIn_wide (n := 9)).1 ?_
  refine callsIn_of_wp_marks Try.func3 rfl trivial ?_ rfl
  simp only [Try.ntmps3, List.size_toArray, List.length_cons, List.length_nil, Nat.reduceAdd, Nat.reduceSub, Array.replicate_succ, Array.replicate_zero, List.push_toArray, List.append_toArray, List.nil_append, List.cons_append]
  refine wpIn_wide.2 ?_
  go_wp2_with fail
  refine hnew.mono ?_
  clear hnew
  rintro e w1 ⟨b, r, m, rfl, h1, hf1⟩
  clear hW1
  obtain ⟨bp, hbp⟩ : ∃ bp, w1.heap.size = bp := ⟨_, rfl⟩
  obtain ⟨w2, hw2⟩ : ∃ w2, (w1.alloc (.cells #[.pointer (some ⟨b, 0, none⟩)] 24)) = w2 := ⟨_, rfl⟩
  have op : ob w2 bp = some (.cells #[.pointer (some ⟨b, 0, none⟩)] 24 (0, 0)) := by rw [← hw2, ← hbp]; exact ob_new _ _
  have hf2 : Fr (fun _ => False) w1 w2 := by rw [← hw2]; exact (Fr.refl _ w1).alloc _
  have cp := cell_of_ob op 0
  go_upto_region 2 with fail
  have hfw : Fr (fun _ => False) W w2 := alsoI (alsoI hfa hf1) hf2
  have om2 := hf2.keep (fun h => h) (hf1.keep (fun h => h) om)
  have cm := cell_of_ob om2 0
  by_cases hbig : 200 < N
  · go_wp2_with fail
    refine (lives_any w2).mono ?_
    rintro e w3 ⟨rfl, hf3⟩
    go_wp2
    exact ⟨_, results_tmp rfl _ _ _, rfl, alsoI hfw hf3⟩
  · have hN3 : N ≤ 200 := by omega
    clear hbig
    have hring : RXI w2 (fun k => W1.heap.size ≤ k ∧ k < w1.heap.size) b r m [[], []] := h1.cut.keep hf2
    have HSEP := Lib.hid (show (∀ k, W1.heap.size ≤ k ∧ k < w1.heap.size → bm ≤ k ∧ k ≠ bp ∧ k ≠ bm) from fun k hk => by omega)
    have HBM := Lib.hid hbm
    have hbpm : bm < bp := by have := hf1.size; omega
    have HR := Lib.hid (show ∀ w2, Fr (fun _ => False) W w2 → RdI w2 (.slice A N C) xs from fun w2 hf => hx.of hf (fun _ h => h.elim))
    have HM := Lib.hid (show ∀ (w' : World) (S : Nat → Prop) (L : List (List Int)), RXI w' S b r m L → (∀ k, S k → bm ≤ k ∧ k ≠ bp ∧ k ≠ bm) → True from fun _ _ _ _ _ => trivial)
    clear hx h1 hf1 hf2 hfa om hz1 hw2 hbp cm HM hbm
    go_wp2_with fail
    go_loopw [27] (fun si wr => ∃ (j : Nat) (l : List Int) (S : Nat → Prop), j ≤ N ∧ si = .int .i64 j ∧ RXI wr S b r m [l, []] ∧ ob wr bp = some (.cells #[.pointer (some ⟨b, 0, none⟩)] 24 (0, 0)) ∧ ob wr bm = some (.cells #[.int .u64 most] 23 (0, 0)) ∧ Hid ((∀ k, S k → bm ≤ k ∧ k ≠ bp ∧ k ≠ bm) ∧ l.length ≤ j ∧ Fr (fun _ => False) W wr)) (fun si _ => N - (intOf si).toNat)
    case atStart => exact ⟨0, [], _, by omega, rfl, hring, op, om2, Lib.hid ⟨HSEP.out, by simp, hfw⟩⟩
    case round =>
      obtain ⟨j, l, S, hjN, rfl, hrx, hop, hom, HH⟩ := hrel
      clear cp
      have cp := cell_of_ob hop 0
      clear hring op om2 HSEP hfw
      by_cases hlt : j < N
      · obtain ⟨n, hn⟩ : ∃ n, xs[j]? = some n := ⟨_, List.getElem?_eq_getElem (by have := HN.out; omega)⟩
        obtain ⟨g, off, n', cap', heq, hgl, -, c0⟩ := RdI.item (HR.out wr HH.out.2.2) hn
        cases heq
        have hp1 := pushI_rx hrx 0 n
        rw [lasts_push l n (by have := HH.out.2.1; omega)] at hp1
        clear hn
        go_wp2_with fail
        refine hp1.mono ?_
        rintro e w3 ⟨rfl, h3, hf3⟩
        clear hp1
        have hop3 := hf3.keep (fun h => (HH.out.1 _ h).2.1 rfl) hop
        have hom3 := hf3.keep (fun h => (HH.out.1 _ h).2.2 rfl) hom
        have l1 := ob_lt hop
        have l2 := ob_lt hom
        have HH3 := Lib.hid (show (∀ k, (S k ∨ wr.heap.size ≤ k) → bm ≤ k ∧ k ≠ bp ∧ k ≠ bm) ∧ (outI l n ++ [n]).length ≤ j + 1 ∧ Fr (fun _ => False) W w3 from
          ⟨fun k hk => hk.elim (HH.out.1 k) (fun h => by omega), by have := outI_len l n; have := HH.out.2.1; simp; omega, HH.out.2.2.step hf3 (fun k hk => .inr (by rw [HBM.out]; exact (HH.out.1 k hk).1))⟩)
        clear l1 l2 hf3
        go_wp2
        go_roundw
        case rel =>
          exact ⟨j + 1, _, _, by omega, by go_num, h3, hop3, hom3, HH3⟩
        case measure => simp [intOf]; omega
      · obtain rfl : j = N := by omega
        have hli := list_any hrx 0 (-1)
        have e1 : mostOf (rowAtI [l, []] 0) (-1) = l := by
          unfold mostOf
          rw [if_neg (by omega)]
          rfl
        rw [e1] at hli
        clear e1
        go_wp2_with fail
        refine hli.mono ?_
        rintro e w3 ⟨v8, rfl, hs8, ho8, hf3⟩
        clear hli
        obtain ⟨A8, N8, C8, rfl⟩ := hs8.shape
        have hN8 : N8 = l.length := SKI.elen hs8
        have hl2 : l.length ≤ 200 := by have := HH.out.2.1; omega
        have hN82 : N8 ≤ 200 := by omega
        have HN8 := Lib.hid hN8
        have HND := Lib.hid (show l.Nodup by have := hrx.nodup; simpa using this)
        have hrx3 := hrx.cut.keep hf3
        have HH3 := Lib.hid (show (∀ k, (S k ∧ k < wr.heap.size) → bm ≤ k ∧ k ≠ bp ∧ k ≠ bm) ∧ (∀ k, (Value.slice A8 N8 C8).ownBlock = some k → ¬ (S k ∧ k < wr.heap.size) ∧ bm ≤ k ∧ k ≠ bp ∧ k ≠ bm) ∧ Fr (fun _ => False) W w3 from
          ⟨fun k hk => HH.out.1 k hk.1, fun k hk => by
            have h1 := ho8 k hk
            have l1 := ob_lt hop
            have l2 := ob_lt hom
            exact ⟨fun h => by have := h.2; omega, by omega, by omega, by omega⟩, alsoI HH.out.2.2 hf3⟩)
        have hop3 := hf3.keep (fun h => h) hop
        have hom3 := hf3.keep (fun h => h) hom
        have HL2 := Lib.hid hl2
        obtain ⟨S3, hS3⟩ : ∃ S3, (fun k => S k ∧ k < wr.heap.size) = S3 := ⟨_, rfl⟩
        have hS3' : ∀ k, (S k ∧ k < wr.heap.size) = S3 k := fun k => congrFun hS3 k
        simp only [hS3'] at HH3
        rw [hS3] at hrx3
        clear hN8 hrx hf3 hop hom ho8 HH HR HN hlt hjN hS3 hS3' hl2 cp
        have cp := cell_of_ob hop3 0
        go_wp2_with fail
        go_loopw [39] (fun si w4 => ∃ (t : Nat) (S4 : Nat → Prop), t ≤ N8 ∧ si = .int .i64 t ∧ RXI w4 S4 b r m [l.drop t ++ l.take t, []] ∧ ob w4 bp = some (.cells #[.pointer (some ⟨b, 0, none⟩)] 24 (0, 0)) ∧ ob w4 bm = some (.cells #[.int .u64 most] 23 (0, 0)) ∧ SKI w4 (.slice A8 N8 C8) l ∧ Hid ((∀ k, S4 k → bm ≤ k ∧ k ≠ bp ∧ k ≠ bm) ∧ (∀ k, (Value.slice A8 N8 C8).ownBlock = some k → ¬ S4 k ∧ bm ≤ k ∧ k ≠ bp ∧ k ≠ bm) ∧ Fr (fun _ => False) W w4)) (fun si _ => N8 - (intOf si).toNat)
        case atStart => exact ⟨0, S3, by omega, rfl, by simpa using hrx3, hop3, hom3, hs8, HH3⟩
        case round =>
          obtain ⟨t, S4, htN, rfl, hrx, hop, hom, hs, HH⟩ := hrel
          clear cp hrx3 hop3 hom3 hs8 HH3
          have cp := cell_of_ob hop 0
          by_cases hlt2 : t < N8
          · obtain ⟨x, hx⟩ : ∃ x, l[t]? = some x := ⟨_, List.getElem?_eq_getElem (by have := HN8.out; omega)⟩
            have hdr : l.drop t = x :: l.drop (t + 1) := by
              have h6 := (List.getElem?_eq_some_iff.1 hx)
              rw [← h6.2, List.drop_eq_getElem_cons h6.1]
            have htk : l.take (t + 1) = l.take t ++ [x] := by rw [List.take_add_one, hx]; rfl
            have hnd := hrx.nodup
            have htu := turnI_rx hrx 0
            rw [hdr, List.cons_append, lasts_turn x _ (by rw [hdr] at hnd; simpa using hnd) (by have := HL2.out; simp; omega)] at htu
            rw [List.append_assoc, ← htk] at htu
            clear hx hdr htk hnd
            go_wp2_with fail
            refine htu.mono ?_
            rintro e w5 ⟨rfl, h5, hf5⟩
            clear htu
            have hop5 := hf5.keep (fun h => (HH.out.1 _ h).2.1 rfl) hop
            have hom5 := hf5.keep (fun h => (HH.out.1 _ h).2.2 rfl) hom
            have hs5 : SKI w5 (.slice A8 N8 C8) l := Sl.fr hs hf5 (fun k hk h => (HH.out.2.1 k hk).1 h)
            have HH5 := Lib.hid (show (∀ k, (S4 k ∨ wr.heap.size ≤ k) → bm ≤ k ∧ k ≠ bp ∧ k ≠ bm) ∧ (∀ k, (Value.slice A8 N8 C8).ownBlock = some k → ¬ (S4 k ∨ wr.heap.size ≤ k) ∧ bm ≤ k ∧ k ≠ bp ∧ k ≠ bm) ∧ Fr (fun _ => False) W w5 from by
              have l1 := ob_lt hop
              have l2 := ob_lt hom
              refine ⟨fun k hk => hk.elim (HH.out.1 k) (fun h => by omega), fun k hk => ⟨fun h => h.elim (HH.out.2.1 k hk).1 (fun h => by have := Sl.lt hs hk; omega), (HH.out.2.1 k hk).2⟩, HH.out.2.2.step hf5 (fun k hk => .inr (by rw [HBM.out]; exact (HH.out.1 k hk).1))⟩)
            clear hf5 hs hop hom HH hrx
            go_wp2
            go_roundw
            case rel =>
              first
              | exact ⟨t + 1, _, by omega, by go_num, h5, hop5, hom5, hs5, HH5⟩
              | ((repeat apply Exists.intro)
                 exact ⟨⟨t + 1, _, by omega, by go_num, h5, hop5, hom5, hs5, HH5⟩, rfl⟩)
            case measure => simp [intOf]; omega
          · obtain rfl : t = N8 := by omega
            have e1 : l.drop t ++ l.take t = l := by rw [HN8.out]; simp
            rw [e1] at hrx
            have hli := list_any hrx 0 (-1)
            have e2 : mostOf (rowAtI [l, []] 0) (-1) = l := by
              unfold mostOf
              rw [if_neg (by omega)]
              rfl
            rw [e2] at hli
            clear e1 e2
            go_wp2_with fail
            refine hli.mono ?_
            rintro e w5 ⟨v9, rfl, hs9, ho9, hf5⟩
            clear hli
            have hs5 : SKI w5 (.slice A8 t C8) l := Sl.fr hs hf5 (fun _ _ h => h)
            have hin := ints_any (Sl.rd hs9) (Sl.rd hs5) hs9.shape ⟨_, _, _, rfl⟩ (by have := HL2.out; omega)
            rw [decide_eq_true (rfl : l = l)] at hin
            go_wp2_with fail
            refine hin.mono ?_
            rintro e w6 ⟨rfl, hf6⟩
            clear hin
            obtain ⟨w8, hw8⟩ : ∃ w8, ((w6.alloc (.cells #[.pointer (some ⟨b, 0, none⟩)] 24)).alloc (.cells #[.int .i64 0] 3)).alloc (.cells #[.slice none 0 0] 22) = w8 := ⟨_, rfl⟩
            obtain ⟨n6, hn6⟩ : ∃ n6, w6.heap.size = n6 := ⟨_, rfl⟩
            have hf56 := alsoI hf5 hf6
            have hop6 := hf56.keep (fun h => h) hop
            have cp6 := cell_of_ob hop6 0
            have heq := fun w f x y => eql_func_nil (P := Try.prog) w 32 f x y Try.underlying32
            have hall := allI_any (some ⟨b, 0, none⟩) 0 w6
            rw [hn6] at hall
            go_wp2_with fail
            refine hall.mono ?_
            rintro e w7 ⟨rfl, rfl⟩
            go_wp2_with fail
            clear hall heq cp6 cp
            have hz8 : w8.heap.size = n6 + 3 := by rw [← hw8, ← hn6]; simp
            have hf68 : Fr (fun _ => False) w6 w8 := by rw [← hw8]; exact (((Fr.refl _ w6).alloc _).alloc _).alloc _
            have q1 : ob w8 n6 = some (.cells #[.pointer (some ⟨b, 0, none⟩)] 24 (0, 0)) := by rw [← hw8, ← hn6, ob_alloc _ _ _ (by simp <;> omega), ob_alloc _ _ _ (by simp <;> omega), ob_newAt _ _ _ (by simp <;> omega)]
            have q2 : ob w8 (n6 + 1) = some (.cells #[.int .i64 0] 3 (0, 0)) := by rw [← hw8, ← hn6, ob_alloc _ _ _ (by simp <;> omega), ob_newAt _ _ _ (by simp <;> omega)]
            obtain ⟨lb, hlb⟩ : ∃ lb, n6 + 1 + 1 = lb := ⟨_, rfl⟩
            have q3 : ob w8 lb = some (.cells #[.slice none 0 0] 22 (0, 0)) := by rw [← hlb, ← hw8, ← hn6, ob_newAt _ _ _ (by simp <;> omega)]
            rw [hlb]
            have hz6 := hf56.size
            rw [hn6] at hz6
            have hf8 := alsoI hf56 hf68
            have hop8 := hf8.keep (fun h => h) hop
            have hom8 := hf8.keep (fun h => h) hom
            have hs8 : SKI w8 (.slice A8 t C8) l := Sl.fr hs hf8 (fun _ _ h => h)
            obtain ⟨vs, Wm, hrt, hgd, hSr⟩ := hrx
            have hrt8 := hrt.keep hf8
            have hlt8 : ∀ k, RSI b r m vs k → k < wr.heap.size := fun k hk => hrt.lt hk
            have hb8 := hlt8 b (.inl rfl)
            have hr8 := hlt8 r (.inr (.inl rfl))
            have hm8 := hlt8 m (.inr (.inr (.inl rfl)))
            have hbpl := ob_lt hop
            have hbml := ob_lt hom
            have hv8l : ∀ k, (Value.slice A8 t C8).ownBlock = some k → k < wr.heap.size := fun k hk => Sl.lt hs hk
            have hB8 : Below W.heap.size W w8 := (alsoI HH.out.2.2 hf8).below (Nat.le_refl _) (fun _ h => h.elim)
            have hD : ∀ (W1 : World) (k : Nat), Fr (fun _ => False) w8 W1 → w8.heap.size ≤ k → ¬ RingD b r lb W1 k := by
              rintro W1 k h1 hk (rfl | rfl | ⟨j, v, hv, hk2⟩ | rfl | ⟨v, hv, hk2⟩)
              · omega
              · omega
              · have := hlt8 k ((hrt8.keep h1).rowcell hv hk2).1; omega
              · omega
              · rw [cell_of_ob (h1.keep (fun h => h) q3)] at hv
                cases hv; cases hk2
            have hcell : ∀ (W : World) (l : Nat) (o o' : Obj) (k i : Nat), w8.heap.size ≤ l → W.heap[l]? = some o → k < w8.heap.size → (W.putObj l o').cell? ⟨k, i, none⟩ = W.cell? ⟨k, i, none⟩ := fun W l o o' k i hl ho hk =>
              World.cell?_of_block (w := W) ((grownBy_putObj' W l o').block k (by have := (Array.getElem?_eq_some_iff.1 ho).1; omega) (fun e => by cases e; omega))
            have hDput : ∀ (W : World) (l : Nat) (o o' : Obj), w8.heap.size ≤ l → W.heap[l]? = some o → o.isCells = false → o.isWalk = false → K2 (RingD b r lb) W (W.putObj l o') := fun W l o o' hl ho hc _ => K2.put ho hc (fun k hk => by
              rcases hk with rfl | rfl | ⟨j, v, hv, hk2⟩ | rfl | ⟨v, hv, hk2⟩
              · exact .inl rfl
              · exact .inr (.inl rfl)
              · exact .inr (.inr (.inl ⟨j, v, by rw [← hcell W l o o' r j hl ho (by omega)]; exact hv, hk2⟩))
              · exact .inr (.inr (.inr (.inl rfl)))
              · exact .inr (.inr (.inr (.inr ⟨v, by rw [← hcell W l o o' lb 0 hl ho (by omega)]; exact hv, hk2⟩))))
            have hn4 := HH.out.1
            have hn5 := HH.out.2.1
            refine (wpIn_wide (n := 9)).1 ?_
            refine wpIn_rangeFunc_ownG rfl (by decide) (gf := 41) (lb := #[.pointer (some ⟨n6, 0, none⟩), .pointer (some ⟨n6 + 1, 0, none⟩)]) rfl trivial (Go.Proofs.enters_of Try.func41 (by kernel_rfl) rfl)
              (all1I_stops (RingD b r lb) 8 n6 (n6 + 1) 0 w8 hrt8 hgd.rowsI q1 q2 hD) K2.trans hDput (Below.refl _ _) (fun _ => rfl)
              (fun pre W' => ((∃ v A' B' vs' Wm', ob W' lb = some (.cells #[v] 22 (0, 0)) ∧ SKI W' v pre ∧ (∀ k, v.ownBlock = some k → w8.heap.size ≤ k) ∧ RTI W' b r m vs' [A', B'] Wm' ∧ Good [A', B'] Wm' ∧ (∀ k, RSI b r m vs' k → (S4 k ∧ k < n6) ∨ w8.heap.size ≤ k) ∧ (∀ k, v.ownBlock = some k → ¬ RSI b r m vs' k) ∧ (∀ y ∈ A', y ∈ l ∧ y ∉ pre) ∧ A'.length + B'.length ≤ l.length + pre.length) ∧
                ob W' bp = some (.cells #[.pointer (some ⟨b, 0, none⟩)] 24 (0, 0)) ∧ ob W' bm = some (.cells #[.int .u64 most] 23 (0, 0)) ∧ SKI W' (.slice A8 t C8) l) ∧ Below W.heap.size W W')
              (fun _ _ _ => False)
              (OwnFrom.and (fun s A B row hs hg hr => ⟨by
                obtain ⟨v, A', B', vs', Wm', h1, h2, h3, h4, h5⟩ := hs.1
                exact ⟨v, A', B', vs', Wm', ob_kept h1 hg (fun r e => (hr r e).2), h2.kept hg (fun r e => (hr r e).2), h3, h4.grown (B := w8.heap.size) (by omega) hg hr, h5⟩, ob_kept hs.2.1 hg (fun r e => (hr r e).2), ob_kept hs.2.2.1 hg (fun r e => (hr r e).2), hs.2.2.2.kept hg (fun r e => (hr r e).2)⟩) (ownFrom_below (Nat.le_refl _) (by have := hB8.size; omega)))
              (fun _ _ _ _ _ hs _ _ => hs)
              ⟨⟨⟨_, l, [], vs, Wm, q3, Sl.nil _ _ _, fun k hk => (by cases hk), hrt8, hgd, fun k hk => .inl ⟨hSr k hk, by have := hlt8 k hk; omega⟩, fun k hk => (by cases hk), fun y hy => ⟨hy, by simp⟩, by simp⟩, hop8, hom8, hs8⟩, hB8⟩
              ?act ?assign ?body ?done ?stop
            case assign =>
              intro l x W K hK
              gi_wp2
              exact hK
            case stop =>
              rintro D c pre W hD hpre hf
              exact hf.elim
            case body =>
              clear hD hDput hcell q1 q2 q3 hf68 hf8 hop8 hom8 hs8 hrt8 hlt8 hop6 hs5 hs9 ho9 hf56 hf5 hf6 hop hom hs hw8 hn6
              rintro l0 pre x W' ⟨⟨⟨v, A', B', vs', Wm', hv, hs, hown, hrt', hgd', hRS, hsep, hA, hlen⟩, hop, hom, hs8⟩, hB⟩ hlt
              have hpl : pre.length ≤ 1000000 := by have : (rowAtI [l, []] 0).length = l.length := rfl; have := HL2.out; omega
              have hpl2 : pre.length ≤ 200 := by have : (rowAtI [l, []] 0).length = l.length := rfl; have := HL2.out; omega
              have c0 := cell_of_ob hv 0
              obtain ⟨Av, Nv, Cv, rfl⟩ := hs.shape
              have hlbW := ob_lt hv
              have hW3 : n6 + 3 ≤ W'.heap.size := by omega
              have hvl : ∀ k, (Value.slice Av Nv Cv).ownBlock = some k → w8.heap.size ≤ k ∧ k < W'.heap.size := fun k hk => ⟨hown k hk, Sl.lt hs hk⟩
              have hR5 : ∀ k, RSI b r m vs' k → k ≠ lb ∧ k ≠ bp ∧ k ≠ bm ∧ (Value.slice A8 t C8).ownBlock ≠ some k := fun k hk => by
                rcases hRS k hk with ⟨h1, h2⟩ | h1
                · have := hn4 k h1
                  exact ⟨by omega, this.2.1, this.2.2, fun e => (hn5 k e).1 h1⟩
                · exact ⟨by omega, by omega, by omega, fun e => by have := hv8l k e; omega⟩
              gi_wp2_with (first | (
                gi_at_builtin
                refine wpListIn_appI (v := .slice Av Nv Cv) rfl _ _ rfl rfl (Sl.alloc hs _) W'.heap.size x rfl (ob_newAt _ _ _ rfl) hpl ?_
                intro A2 N2 C2 w5 hs5 hf5 ho5
                have hf6 : Fr (fun k => (Value.slice Av Nv Cv).ownBlock = some k) W' w5 := ((Fr.refl _ W').alloc _).step hf5 (fun k hk => .inl hk)
                have e5 := hf6.keep (fun e => by have := hown lb e; omega) hv
                have g0 := cell_of_ob e5 0
                have g1 := frozen_of_ob e5 0
                have hown2 : ∀ k, (Value.slice A2 N2 C2).ownBlock = some k → w8.heap.size ≤ k ∧ k ≠ lb ∧ ¬ RSI b r m vs' k := fun k hk => by
                  rcases ho5 k hk with h | h
                  · have := hown k h; exact ⟨this, by omega, hsep k h⟩
                  · simp at h
                    exact ⟨by omega, by omega, fun h4 => by have := hrt'.lt h4; omega⟩
                obtain ⟨w6, hw6⟩ : ∃ w6, w5.setCell ⟨lb, 0, none⟩ (.slice A2 N2 C2) = w6 := ⟨_, rfl⟩
                have e6 : ob w6 lb = some (.cells #[.slice A2 N2 C2] 22 (0, 0)) := by rw [← hw6, ob_setCell_same e5]; rfl
                have hs6 : SKI w6 (.slice A2 N2 C2) (pre ++ [x]) := by rw [← hw6]; exact Sl.of hs5 (fun k hk => ob_setCell _ _ _ _ (hown2 k hk).2.1)
                have hf7 : Fr (fun k => k = lb ∨ (Value.slice Av Nv Cv).ownBlock = some k) W' w6 := by rw [← hw6]; exact (hf6.mono' (fun k h => .inr h)).setCell _ _ (.inl (.inl rfl))
                have hrt6 := hrt'.fr hf7 (fun k hk h => hk.elim (fun e => (hR5 k h).1 e) (fun e => hsep k e h))
                have hop6 := hf7.keep (fun e => e.elim (fun e => by omega) (fun e => by have := hown _ e; omega)) hop
                have hom6 := hf7.keep (fun e => e.elim (fun e => by omega) (fun e => by have := hown _ e; omega)) hom
                have hs86 : SKI w6 (.slice A8 t C8) l := Sl.fr hs8 hf7 (fun k hk e => e.elim (fun e => by have := hv8l k hk; omega) (fun e => by have := hown _ e; have := hv8l k hk; omega))
                have hk1 := box_step hrt' hf7 hv e6 (fun k hk => (ho5 k hk).imp_right (fun h => by simp at h; omega)) ⟨(hR5 r (.inr (.inl rfl))).1, fun e => hsep r e (.inr (.inl rfl))⟩
                have cp6 := cell_of_ob hop6 0
                have hp1 := pushI_rx (S := RSI b r m vs') ⟨vs', Wm', hrt6, hgd', fun k h => h⟩ 1 x))
              refine ⟨trivial, (CallsIn.inRound l0 (callsIn_wide.2 hp1)).mono ?_⟩
              rintro e w7 ⟨rfl, ⟨vs7, Wm7, hrt7, hgd7, hRS7⟩, hf7b⟩
              clear hp1 cp6
              have hk2 := ring_step hrt6 hrt7 hf7b hRS7 e6 (fun h => (hR5 lb h).1 rfl)
              have hkp2 := ring_keeps (B := w8.heap.size) hrt6 hf7b (by omega)
              have hop7 := hf7b.keep (fun h => (hR5 _ h).2.1 rfl) hop6
              have hom7 := hf7b.keep (fun h => (hR5 _ h).2.2.1 rfl) hom6
              have e7 := hf7b.keep (fun h => (hR5 lb h).1 rfl) e6
              have hs7 : SKI w7 (.slice A2 N2 C2) (pre ++ [x]) := Sl.fr hs6 hf7b (fun k hk h => (hown2 k hk).2.2 h)
              have hs87 : SKI w7 (.slice A8 t C8) l := Sl.fr hs86 hf7b (fun k hk h => (hR5 k h).2.2.2 hk)
              have cp7 := cell_of_ob hop7 0
              have cm7 := cell_of_ob hom7 0
              gi_wp2
              have hrem := removeI_rx (S := RSI b r m vs7) ⟨vs7, Wm7, hrt7, hgd7, fun k h => h⟩ (wrap64 most)
              refine ⟨trivial, (CallsIn.inRound l0 (callsIn_wide.2 hrem)).mono ?_⟩
              rintro e w9 ⟨rfl, ⟨vs9, Wm9, hrt9, hgd9, hRS9⟩, hf9⟩
              clear hrem cp7 cm7
              have hz67 := hf7b.size
              have hzW6 := hf7.size
              have hR7 : ∀ k, RSI b r m vs7 k → k ≠ lb ∧ k ≠ bp ∧ k ≠ bm ∧ (Value.slice A8 t C8).ownBlock ≠ some k := fun k hk => by
                rcases hRS7 k hk with h1 | h1
                · exact hR5 k h1
                · exact ⟨by omega, by omega, by omega, fun e => by have := hv8l k e; omega⟩
              have hk3 := ring_step hrt7 hrt9 hf9 hRS9 e7 (fun h => (hR7 lb h).1 rfl)
              have hkp3 := ring_keeps (B := w8.heap.size) hrt7 hf9 (by omega)
              have hop9 := hf9.keep (fun h => (hR7 _ h).2.1 rfl) hop7
              have hom9 := hf9.keep (fun h => (hR7 _ h).2.2.1 rfl) hom7
              have e9 := hf9.keep (fun h => (hR7 lb h).1 rfl) e7
              have hz2 := Sl.lt hs6 (k := 0)
              have hown7 : ∀ k, (Value.slice A2 N2 C2).ownBlock = some k → ¬ RSI b r m vs7 k := fun k hk h => by
                rcases hRS7 k h with h1 | h1
                · exact (hown2 k hk).2.2 h1
                · have := Sl.lt hs6 hk; omega
              have hown9 : ∀ k, (Value.slice A2 N2 C2).ownBlock = some k → ¬ RSI b r m vs9 k := fun k hk h => by
                rcases hRS9 k h with h1 | h1
                · exact hown7 k hk h1
                · have := Sl.lt hs7 hk; omega
              have hs9 : SKI w9 (.slice A2 N2 C2) (pre ++ [x]) := Sl.fr hs7 hf9 (fun k hk h => hown7 k hk h)
              have hs89 : SKI w9 (.slice A8 t C8) l := Sl.fr hs87 hf9 (fun k hk h => (hR7 k h).2.2.2 hk)
              have hk1' : KeepsFrom w8.heap.size W' w6 := (KeepsOthers.of_fr hf7 (fun k hk _ => hk.elim (fun e => ⟨_, _, _, e ▸ hv⟩) (fun h => Sl.isCells hs h))).from _
              rw [lasts_step A' B' x (wrap64 most) (by have := HL2.out; omega)] at hrt9 hgd9
              have hRS' : ∀ k, RSI b r m vs9 k → (S4 k ∧ k < n6) ∨ w8.heap.size ≤ k := fun k hk => by
                rcases hRS9 k hk with h1 | h1
                · rcases hRS7 k h1 with h2 | h2
                  · exact hRS k h2
                  · right; omega
                · right; omega
              have hB5 : ∀ k, RSI b r m vs' k → W.heap.size ≤ k := fun k hk => by
                rcases hRS k hk with ⟨h1, _⟩ | h1
                · have := (hn4 k h1).1; have := HBM.out; omega
                · have := hB8.size; omega
              have hB7 : ∀ k, RSI b r m vs7 k → W.heap.size ≤ k := fun k hk => by
                rcases hRS7 k hk with h1 | h1
                · exact hB5 k h1
                · have := hB8.size; omega
              have hB9 : Below W.heap.size W w9 := ((hB.trans (hf7.below hB.size (fun k hk => by
                have := hB8.size
                rcases hk with e | e
                · have := HBM.out; omega
                · have := hown k e; omega))).trans (hf7b.below (by have := hB.size; omega) hB5)).trans (hf9.below (by have := hB.size; omega) hB7)
              gi_wp2
              refine ⟨(hk1'.trans hkp2).trans hkp3, (hk1.trans hk2).trans hk3, ⟨⟨_, _, _, vs9, Wm9, e9, hs9, fun k hk => (hown2 k hk).1, hrt9, hgd9, hRS', hown9, ?_, ?_⟩, hop9, hom9, hs89⟩, hB9⟩
              · intro y hy
                obtain ⟨hy1, _⟩ := outI_mem hy
                obtain ⟨hy2, hyx⟩ := outI_mem hy1
                refine ⟨(hA y hy2).1, fun h => ?_⟩
                rcases List.mem_append.1 h with h | h
                · exact (hA y hy2).2 h
                · simp at h; exact hyx h
              · have a1 := outI_len (outI A' x) (wrap64 most)
                have a2 := outI_len A' x
                have a3 := outI_len (outI B' x ++ [x]) (wrap64 most)
                have a4 := outI_len B' x
                simp at a3 ⊢
                omega
            case done =>
              rintro D ys w9 hDz hys ⟨⟨⟨v, A', B', vs', Wm', hv, hs, hown, hrt', hgd', hRS, hsep, hA, hlen⟩, hop, hom, hs8⟩, hB⟩ hK
              rw [show ys = l from hys] at hs hA hlen
              have hA0 : A' = [] := by
                cases A' with
                | nil => rfl
                | cons y t => exact absurd (hA y (List.mem_cons_self ..)).1 (hA y (List.mem_cons_self ..)).2
              subst hA0
              have c0 := cell_of_ob hv 0
              have cp := cell_of_ob hop 0
              have hin := ints_any (Sl.rd hs) (Sl.rd hs8) hs.shape ⟨_, _, _, rfl⟩ (by have := HL2.out; omega)
              rw [decide_eq_true (rfl : l = l)] at hin
              go_wp2_with fail
              refine hin.mono ?_
              rintro e w10 ⟨rfl, hf10⟩
              clear hin
              have hrt10 := hrt'.keep hf10
              have cp10 := cell_of_ob (hf10.keep (fun h => h) hop) 0
              have hl0 : Calls Try.prog 18 #[.pointer (some ⟨b, 0, none⟩), .int .i64 0] w10 fun e w' => e = .returned (.int .i64 0) ∧ w' = w10 := lenI_any hrt10 0
              go_wp2_with fail
              refine hl0.mono ?_
              rintro e w11 ⟨rfl, rfl⟩
              clear hl0
              go_wp2_with fail
              refine (lives_any _).mono ?_
              rintro e w12 ⟨rfl, hf12⟩
              go_wp2
              have hK12 : w12.heap[D]? = some (.deferred (some [])) := hf12.keep (fun h => h) (hf10.keep (fun h => h) hK)
              have hz9 := hB.size
              have hz10 := hf10.size
              have hB12 : Below W.heap.size W w12 := (hB.trans (hf10.below hz9 (fun _ h => h.elim))).trans (hf12.below (by omega) (fun _ h => h.elim))
              have hz88 := hB8.size
              refine ⟨by simp, .inl ⟨_, _, rfl, run_takeDeferred hK12, ?_⟩⟩
              exact ⟨_, results_tmp rfl _ _ _, rfl, below_fr (hB12.trans (belowK_b (w := W) (Nat.le_refl _) w12 D _ _ (by omega) hK12 rfl rfl)) rfl⟩
end Go.Proofs.Ytfcpodlbombimaa
