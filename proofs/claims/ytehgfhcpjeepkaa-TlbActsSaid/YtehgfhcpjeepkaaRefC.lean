/- pantryref05.Table: Put. No conditions. -/
import Derived.Test.YtehgfhcpjeepkaaRefB
namespace Go.Proofs.Ytehgfhcpjeepkaa
open Go.RowKit
set_option linter.unusedSimpArgs false
set_option linter.unusedVariables false
/-- Setting a key's entry, in the row of cells. -/
theorem alSet_cells : ∀ (l : List (K2 × K2)) (k e : K2) (j : Nat) (e0 : K2), l[j]? = some (k, e0) → (∀ i, i < j → ∀ x, l[i]? = some x → x.1 ≠ k) →
    (alSet l k e).flatMap ents = (l.flatMap ents).take (j * 4 + 2) ++ [.int .i64 e.1, .int .i64 e.2] ++ (l.flatMap ents).drop (j * 4 + 2 + 2)
  | [], k, e, j, e0, h, _ => by simp at h
  | (x, u) :: l, k, e, 0, e0, h, _ => by
    simp at h
    obtain ⟨rfl, rfl⟩ := h
    simp [alSet, ents]
  | (x, u) :: l, k, e, j + 1, e0, h, hn => by
    simp at h
    have hx : x ≠ k := hn 0 (by omega) (x, u) rfl
    have ih := alSet_cells l k e j e0 h (fun i hi y hy => hn (i + 1) (by omega) y (by simpa using hy))
    simp only [alSet, hx, if_false, List.flatMap_cons]
    rw [ih]
    rw [show (j + 1) * 4 + 2 = 4 + (j * 4 + 2) by omega, show 4 + (j * 4 + 2) + 2 = 4 + (j * 4 + 2 + 2) by omega]
    have hl : (ents (x, u)).length = 4 := rfl
    rw [← hl, List.take_length_add_append, List.drop_length_add_append]
    simp
theorem alGet_none {κ α : Type} [DecidableEq κ] : ∀ (l : List (κ × α)) (k : κ), (∀ (i : Nat) x, l[i]? = some x → x.1 ≠ k) → alGet l k = none ∧ ∀ v, alSet l k v = l ++ [(k, v)]
  | [], k, _ => ⟨rfl, fun _ => rfl⟩
  | (x, u) :: l, k, h => by
    have hx : x ≠ k := h 0 (x, u) rfl
    obtain ⟨h1, h2⟩ := alGet_none l k (fun i y hy => h (i + 1) y (by simpa using hy))
    exact ⟨by simp [alGet, hx, h1], fun v => by simp [alSet, hx, h2]⟩
theorem alSet_len_has (l : List (K2 × K2)) (k e : K2) (j : Nat) (e0 : K2) (h : l[j]? = some (k, e0)) : (alSet l k e).length = l.length := by
  rw [alSet_length, if_pos]
  rw [alGet_isSome]
  exact List.mem_map.2 ⟨_, List.mem_of_getElem? h, rfl⟩
/-- What a Put of the document's leaves behind. -/
def RPut (w : World) (b : Nat) (n : Int) (l : List (K2 × K2)) (w' : World) : Prop :=
  ∃ lv', RTab w' b n lv' l ∧ Fr (fun q => q = b) w w' ∧ ∀ q, lv'.ownBlock = some q → w.heap.size ≤ q
set_option maxHeartbeats 2000000 in
theorem rput_any {w : World} {b : Nat} {n : Int} {lv : Value} {l : List (K2 × K2)} (h : RTab w b n lv l) (hn : (l.length : Int) ≤ n) (hl : l.length ≤ 100000) (k e : K2) :
    Calls Try.prog 16 #[.pointer (some ⟨b, 0, none⟩), .agg #[.int .i64 k.1, .int .i64 k.2], .agg #[.int .i64 e.1, .int .i64 e.2]] w fun en w' =>
      en = .returned (.tuple #[]) ∧ RPut w b n (tput n l k e) w' := by
  obtain ⟨A, N, C, rfl, hN⟩ := h.form
  have HN := Lib.hid hN
  clear hN
  have c1 : w.cell? ⟨b, 1, none⟩ = some (.slice A N C) := cell_of_ob h.blk 1
  have hb := h.lt
  have hb1 : b < w.heap.size + 1 := by omega
  have hb2 : b < w.heap.size + 1 + 1 := by omega
  have hN5 : N ≤ 100000 := by rw [HN.out]; exact hl
  obtain ⟨i0, hi, hz, hs, hby⟩ := info_of zeroKept
  go_enter Try.func16, Try.ntmps16
  go_wp2_with (at_builtin; go_must (refine wpList_appsrc (v := .slice (some ⟨w.heap.size + 1 + 1, 0, none⟩) 0 0) (y := .slice A N C) rfl _ _ _ rfl Try.underlying49 hi hz hs hby rfl (by decide) rfl (Sl.builtAt _ [] 0 _ (by simp) rfl (by decide)) rfl (((h.row.alloc _).alloc _).alloc _) (one_ents l) (by simp only [sliceLen, maxLen]; omega) (by simp only [sliceLen]; omega) ?_; intro v' W h2 h3 h4 h5; obtain ⟨A', L, C', rfl⟩ := h2.shape))
  obtain rfl : L = N := by simp only [sliceLen] at h5; omega
  have hfW : Fr (fun _ => False) w W := ((((Fr.refl _ w).alloc _).alloc _).alloc _).step h3 (fun q hq => .inr (by have : w.heap.size + 1 + 1 = q := Option.some.inj hq; omega))
  have ok : ob W w.heap.size = some (.cells #[.int .i64 k.1, .int .i64 k.2] 42 (0, 0)) :=
    h3.keep (fun hq => by have := Option.some.inj hq; simp only at this; omega) (by rw [ob_alloc _ _ _ (by simp only [World.size_alloc]; omega), ob_alloc _ _ _ (by simp only [World.size_alloc]; omega), ob_new])
  have oe : ob W (w.heap.size + 1) = some (.cells #[.int .i64 e.1, .int .i64 e.2] 29 (0, 0)) :=
    h3.keep (fun hq => by have := Option.some.inj hq; simp only at this; omega) (by rw [ob_alloc _ _ _ (by simp only [World.size_alloc]; omega), ob_newAt _ _ _ (by simp)])
  have hown : ∀ q, (Value.slice A' L C').ownBlock = some q → w.heap.size + 2 ≤ q := by
    intro q hq
    rcases h4 with h4 | ⟨r, h4, hr⟩
    · rw [h4] at hq; have : w.heap.size + 1 + 1 = q := Option.some.inj hq; omega
    · rw [h4] at hq; cases hq; simp at hr; omega
  have hT := h.fr hfW (fun _ _ h => h)
  rw [List.nil_append] at h2
  clear h3 h4 h5 c1 hb1 hb2
  go_loopw [16] (fun i wr => ∃ j : Nat, j ≤ L ∧ i = .int .i64 j ∧ Fr (fun _ => False) W wr ∧ ∀ (i : Nat) x, i < j → l[i]? = some x → x.1 ≠ k) (fun i _ => L - (intOf i).toNat)
  case atStart => exact ⟨0, Nat.zero_le _, rfl, Fr.refl _ _, fun i x hi => by omega⟩
  case round =>
    obtain ⟨j, hj, rfl, hfj, hno⟩ := hrel
    have HNO := Lib.hid hno
    have ok2 := hfj.keep (fun h => h) ok
    have oe2 := hfj.keep (fun h => h) oe
    have kc0 : wr.cell? ⟨w.heap.size, 0, none⟩ = some (.int .i64 k.1) := cell_of_ob ok2 0
    have kc1 : wr.cell? ⟨w.heap.size, 1, none⟩ = some (.int .i64 k.2) := cell_of_ob ok2 1
    have ec0 : wr.cell? ⟨w.heap.size + 1, 0, none⟩ = some (.int .i64 e.1) := cell_of_ob oe2 0
    have ec1 : wr.cell? ⟨w.heap.size + 1, 1, none⟩ = some (.int .i64 e.2) := cell_of_ob oe2 1
    have sk := ob_lt ok2
    have se := ob_lt oe2
    have hTj := hT.fr hfj (fun _ _ h => h)
    have hbr := hTj.lt
    have hs2 := h2.fr hfj (fun _ _ h => h)
    have fb : wr.frozen? ⟨b, 1, none⟩ = false := frozen_of_ob hTj.blk 1
    have cb0 : wr.cell? ⟨b, 0, none⟩ = some (.int .i64 n) := cell_of_ob hTj.blk 0
    have cb1 : wr.cell? ⟨b, 1, none⟩ = some (.slice A L C) := cell_of_ob hTj.blk 1
    clear hno
    by_cases hlt : j < L
    · obtain ⟨x, hx⟩ : ∃ x, l[j]? = some x := ⟨_, List.getElem?_eq_getElem (by have := HN.out; omega)⟩
      obtain ⟨g, off, n', cap', heq, hgl, hfz, x0, x1, x2, x3⟩ := hs2.ent hx
      cases heq
      have HX := Lib.hid hx
      have hgb : g ≠ b := fun e => by have := hown g rfl; omega
      have hf2 := hfz (off + j * 4 + 2)
      have hf3 := hfz (off + j * 4 + 3)
      clear hx hfz
      cases kk : k2eq x.1.1 x.1.2 k.1 k.2
      case false =>
        go_wp2_with fail
        refine wp_region_canon [0, 1, 2, 3, 4, 5, 6] (by kernel_rfl) (by kernel_rfl) (fun K hK => ?_)
        simp only [List.map_cons, List.map_nil, List.getD_cons_succ, List.getD_cons_zero]
        go_wp2
        refine hK _ _ (by kernel_rfl) ?_
        clear hK K
        go_wp2
        go_roundw
        case rel =>
          refine ⟨j + 1, by omega, by go_num, hfj.drew, fun i y hi hy => ?_⟩
          by_cases hij : i = j
          · subst hij
            rw [HX.out] at hy
            cases hy
            rw [k2eq_iff] at kk
            simpa using kk
          · exact HNO.out i y (by omega) hy
        case measure => simp [intOf]; omega
      case true =>
        go_wp2_with fail
        refine wp_region_canon [0, 1, 2, 3, 4, 5, 6] (by kernel_rfl) (by kernel_rfl) (fun K hK => ?_)
        simp only [List.map_cons, List.map_nil, List.getD_cons_succ, List.getD_cons_zero]
        go_wp2
        refine hK _ _ (by kernel_rfl) ?_
        clear hK K
        go_wp2
        refine bodyPost_ret (results_none Try.results16 _ _ _) rfl ⟨rfl, ?_⟩
        have hxk : x.1 = k := by rw [k2eq_iff] at kk; simpa using kk
        have hx2 : l[j]? = some (k, x.2) := by rw [HX.out, ← hxk]
        have hts : tput n l k e = alSet l k e := by
          unfold tput
          rw [if_neg (by rw [alSet_len_has l k e j x.2 hx2]; omega)]
        have hcl : j * 4 + 2 + 2 ≤ (l.flatMap ents).length := by rw [len_ents]; have := HN.out; omega
        have hput := hs2.put (j * 4 + 2) [.int .i64 e.1, .int .i64 e.2] hcl
        rw [← Nat.add_assoc] at hput
        simp only [World.setCells, List.length_cons, List.length_nil] at hput
        rw [show j * 4 + 2 + (0 + 1 + 1) = j * 4 + 2 + 2 by omega, ← alSet_cells l k e j x.2 hx2 (fun i hi y hy => HNO.out i y hi hy), ← hts] at hput
        have hfg : Fr (fun q => q = g) wr ((wr.setCell ⟨g, off + j * 4 + 2, none⟩ (.int .i64 e.1)).setCell ⟨g, off + j * 4 + 2 + 1, none⟩ (.int .i64 e.2)) := ((Fr.refl (fun q => q = g) wr).setCell ⟨g, off + j * 4 + 2, none⟩ _ (.inl rfl)).setCell ⟨g, off + j * 4 + 2 + 1, none⟩ _ (.inl rfl)
        have hog := hown g rfl
        refine ⟨_, ⟨ob_setCell_same (hfg.keep (fun e => hgb e.symm) hTj.blk) _, hput.of fun q hq => ?_⟩, ?_, fun q hq => by have := hown q hq; omega⟩
        · exact ob_setCell _ _ _ _ (fun e => by have := hown q hq; simp at e; omega)
        · exact (((((hfW.also hfj).mono' (S2 := fun q => q = b) (fun _ h => h.elim)).step hfg (S := fun q => q = b) (fun q hq => .inr (by omega)))).setCell _ _ (.inl rfl)).drew
    · obtain rfl : j = L := by omega
      have hts := (alGet_none l k (fun i x hx => HNO.out i x (by have := HN.out; have := (List.getElem?_eq_some_iff.1 hx).1; omega) hx)).2 e
      have HTS := Lib.hid hts
      clear hts
      have hlen5 : sliceLen (.slice A' j C') ≤ 100000 := by simp only [sliceLen]; omega
      go_upto_region 10 with (at_builtin; go_must (refine wpList_app (v := .slice A' j C') rfl _ _ _ rfl Try.underlying49 hi hz hs hby rfl (by decide) rfl (hs2.alloc _) wr.heap.size 1 1 (ents (k, e)) rfl (ob_new _ _) rfl (by simp [Value.oneCell', ents]) (by decide) (by simp only [maxLen]; omega) (by omega) ?_; intro v2 w3 hs3 hf3 ho3 hl3; obtain ⟨A2, N2, C2, rfl⟩ := hs3.shape))
      have HTS2 := HTS.out
      rw [show l.flatMap ents ++ ents (k, e) = (alSet l k e).flatMap ents by rw [HTS2, List.flatMap_append]; simp] at hs3
      have hal : (alSet l k e).length = j + 1 := by rw [HTS2, List.length_append, ← HN.out]; rfl
      simp only [sliceLen] at hl3
      have HL3 := Lib.hid hl3
      have HAL := Lib.hid hal
      have hown3 : ∀ q, (Value.slice A2 N2 C2).ownBlock = some q → w.heap.size + 2 ≤ q := by
        intro q hq
        rcases ho3 with ho3 | ⟨r, ho3, hr⟩
        · exact hown q (ho3 ▸ hq)
        · rw [ho3] at hq; cases hq; simp at hr; omega
      have hw3 : Fr (fun _ => False) w w3 := (((hfW.also hfj).alloc _).step hf3 (fun q hq => .inr (by have := hown q hq; omega)))
      have hT3 := h.fr hw3 (fun _ _ h => h)
      have hb3 := hT3.lt
      have fb3 : w3.frozen? ⟨b, 1, none⟩ = false := frozen_of_ob hT3.blk 1
      have d0 : w3.cell? ⟨b, 0, none⟩ = some (.int .i64 n) := cell_of_ob hT3.blk 0
      have d1 : w3.cell? ⟨b, 1, none⟩ = some (.slice A j C) := cell_of_ob hT3.blk 1
      obtain ⟨y, hy⟩ : ∃ y, (alSet l k e)[0]? = some y := ⟨_, List.getElem?_eq_getElem (by rw [hal]; omega)⟩
      obtain ⟨g3, off3, n3, cap3, heq, hgl3, _⟩ := hs3.ent hy
      obtain ⟨hnc, hcm⟩ := hs3.ncap
      have hN2 : 1 ≤ N2 := by omega
      cases heq
      clear ho3 hl3 hal HTS2 hy fb cb0 cb1 kc0 kc1 ec0 ec1 hf3
      have fin : ∀ (off' n' c' : Nat), Sl w3 53 4 (.slice (some ⟨g3, off', none⟩) n' c') ((tput n l k e).flatMap ents) → RPut w b n (tput n l k e) (w3.setCell ⟨b, 1, none⟩ (.slice (some ⟨g3, off', none⟩) n' c')) := by
        intro off' n' c' hF
        refine ⟨_, ⟨ob_setCell_same hT3.blk _, hF.of fun q hq => ob_setCell _ _ _ _ ?_⟩, (hw3.mono' (fun _ h => h.elim)).setCell _ _ (.inl rfl), fun q hq => ?_⟩
        · have hq' : g3 = q := Option.some.inj hq
          have := hown3 g3 rfl
          show q ≠ b
          omega
        · have hq' : g3 = q := Option.some.inj hq
          have := hown3 g3 rfl
          omega
      by_cases hbig : n < N2
      · have ht : tput n l k e = (alSet l k e).tail := by unfold tput; rw [if_pos (by rw [HAL.out]; have := HL3.out; omega)]
        have hF : (alSet l k e).tail.flatMap ents = ((alSet l k e).flatMap ents).drop (1 * 4) := by
          cases h0 : alSet l k e with
          | nil => rfl
          | cons x r => simp [ents]
        have HT := Lib.hid ht
        have HF := Lib.hid hF
        clear ht hF
        by_cases hC2 : C2 = 1
        · subst hC2
          obtain rfl : N2 = 1 := by omega
          go_wp2_with fail
          go_end0
          refine ⟨rfl, fin off3 0 0 ?_⟩
          rw [HT.out, HF.out, List.drop_of_length_le (by rw [len_ents, HAL.out]; have := HL3.out; omega)]
          exact hs3.tail0
        · have hC3 : (C2 : Int) - 1 ≠ 0 := by omega
          go_wp2_with fail
          go_end0
          refine ⟨rfl, fin (off3 + 4) (N2 - 1) (C2 - 1) ?_⟩
          rw [HT.out, HF.out]
          exact hs3.tail 1 hN2
      · have ht : tput n l k e = alSet l k e := by unfold tput; rw [if_neg (by rw [HAL.out]; have := HL3.out; omega)]
        have HT := Lib.hid ht
        clear ht
        go_wp2_with fail
        go_end0
        refine ⟨rfl, fin off3 N2 C2 ?_⟩
        rw [HT.out]
        exact hs3
end Go.Proofs.Ytehgfhcpjeepkaa
