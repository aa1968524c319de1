/- pantryref05.Table: Find, drop, the flushes. No conditions. -/
import Derived.Test.YtehgfhcpjeepkaaRef
namespace Go.Proofs.Ytehgfhcpjeepkaa
open Go.RowKit
set_option linter.unusedSimpArgs false
set_option linter.unusedVariables false
theorem Fr.also {w w1 w2 : World} (h : Fr (fun _ => False) w w1) (k : Fr (fun _ => False) w1 w2) : Fr (fun _ => False) w w2 := h.step k (fun _ h => h.elim)
theorem drop_cons_at {α : Type} (l : List α) (j : Nat) (x : α) (h : l[j]? = some x) : l.drop j = x :: l.drop (j + 1) := by
  obtain ⟨hj, rfl⟩ := List.getElem?_eq_some_iff.1 h
  exact List.drop_eq_getElem_cons hj
set_option maxHeartbeats 1000000 in
theorem rfind_any {w : World} {b : Nat} {n : Int} {lv : Value} {l : List (K2 × K2)} (h : RTab w b n lv l) (hl : l.length ≤ 100000) (k : K2) :
    Calls Try.prog 22 #[.pointer (some ⟨b, 0, none⟩), .agg #[.int .i64 k.1, .int .i64 k.2]] w fun e w' =>
      e = .returned (.tuple #[k2 ((alGet l k).getD (0, 0)), .bool (alGet l k).isSome]) ∧ Fr (fun _ => False) w w' := by
  obtain ⟨A, N, C, rfl, hN⟩ := h.form
  have HN := Lib.hid hN
  clear hN
  have c1 : w.cell? ⟨b, 1, none⟩ = some (.slice A N C) := cell_of_ob h.blk 1
  have hb := h.lt
  have hb1 : b < w.heap.size + 1 := by omega
  obtain ⟨R, hR⟩ : ∃ R, R = alGet l k := ⟨_, rfl⟩
  rw [← hR]
  have HR := Lib.hid hR
  clear hR
  have hN5 : N ≤ 100000 := by rw [HN.out]; exact hl
  go_enter Try.func22, Try.ntmps22
  go_wp2
  obtain ⟨W, hW⟩ : ∃ W, W = (w.alloc (.cells #[.int .i64 k.1, .int .i64 k.2] 42)).alloc (.cells #[.int .i64 0, .int .i64 0] 29) := ⟨_, rfl⟩
  rw [← hW]
  have hfr : Fr (fun _ => False) w W := by rw [hW]; exact ((Fr.refl _ _).alloc _).alloc _
  have hsz : W.heap.size = w.heap.size + 2 := by rw [hW]; simp
  have ok : ob W w.heap.size = some (.cells #[.int .i64 k.1, .int .i64 k.2] 42 (0, 0)) := by
    rw [hW, ob_alloc _ _ _ (by simp only [World.size_alloc]; omega), ob_new]
  have oe : ob W (w.heap.size + 1) = some (.cells #[.int .i64 0, .int .i64 0] 29 (0, 0)) := by
    rw [hW, ob_newAt _ _ _ (by simp)]
  have hT := h.fr hfr (fun _ _ h => h)
  clear hW
  go_loopw [13] (fun i wr => ∃ j : Nat, j ≤ N ∧ i = .int .i64 j ∧ Fr (fun _ => False) W wr ∧ alGet (l.drop j) k = R) (fun i _ => N - (intOf i).toNat)
  case atStart => exact ⟨0, Nat.zero_le _, rfl, Fr.refl _ _, by rw [HR.out]; rfl⟩
  case round =>
    obtain ⟨j, hj, rfl, hfj, hg⟩ := hrel
    have HG := Lib.hid hg
    have ok2 := hfj.keep (fun h => h) ok
    have oe2 := hfj.keep (fun h => h) oe
    have kc0 : wr.cell? ⟨w.heap.size, 0, none⟩ = some (.int .i64 k.1) := cell_of_ob ok2 0
    have kc1 : wr.cell? ⟨w.heap.size, 1, none⟩ = some (.int .i64 k.2) := cell_of_ob ok2 1
    have ec0 : wr.cell? ⟨w.heap.size + 1, 0, none⟩ = some (.int .i64 0) := cell_of_ob oe2 0
    have ec1 : wr.cell? ⟨w.heap.size + 1, 1, none⟩ = some (.int .i64 0) := cell_of_ob oe2 1
    have ef : ∀ i, wr.frozen? ⟨w.heap.size + 1, i, none⟩ = false := fun i => frozen_of_ob oe2 i
    have sk := ob_lt ok2
    have se := ob_lt oe2
    clear hg
    by_cases hlt : j < N
    · obtain ⟨x, hx⟩ : ∃ x, l[j]? = some x := ⟨_, List.getElem?_eq_getElem (by have := HN.out; omega)⟩
      obtain ⟨g, off, n', cap', heq, hgl, hfz, x0, x1, x2, x3⟩ := (hT.row.fr hfj (fun _ _ h => h)).ent hx
      cases heq
      have HD := Lib.hid (drop_cons_at l j x hx)
      have ef0 := ef 0
      have ef1 := ef 1
      clear hx hfz ef
      cases kk : k2eq x.1.1 x.1.2 k.1 k.2
      case false =>
        go_wp2
        go_roundw
        case rel =>
          refine ⟨j + 1, by omega, by go_num, hfj.alloc _, ?_⟩
          have := HG.out
          rw [HD.out] at this
          rw [k2eq_iff] at kk
          simp only [alGet] at this
          rw [if_neg (by simpa using kk)] at this
          exact this
        case measure => simp [intOf]; omega
      case true =>
        have hr : R = some x.2 := by
          rw [← HG.out, HD.out]
          rw [k2eq_iff] at kk
          simp only [alGet]
          rw [if_pos (by simpa using kk)]
        have HR2 := Lib.hid hr
        clear hr
        go_wp2
        refine bodyPost_ret (v := .tuple #[.agg #[.int .i64 x.2.1, .int .i64 x.2.2], .bool true]) (by simp [results, Try.results22, go_sem, *]) rfl ⟨by rw [HR2.out]; rfl, ?_⟩
        exact (((hfr.also hfj).setCell _ _ (.inr (by simp))).setCell _ _ (.inr (by simp))).alloc _
    · have hr : R = none := by
        rw [← HG.out, List.drop_of_length_le (by have := HN.out; omega)]
        rfl
      have HR2 := Lib.hid hr
      have ef0 := ef 0
      have ef1 := ef 1
      clear hr ef
      go_wp2
      refine bodyPost_ret (v := .tuple #[.agg #[.int .i64 0, .int .i64 0], .bool false]) (by simp [results, Try.results22, go_sem, *]) rfl ⟨by rw [HR2.out]; rfl, ?_⟩
      exact ((hfr.also hfj).setCell _ _ (.inr (by simp))).setCell _ _ (.inr (by simp))
/-- Does an entry go? -/
def goes (all : Bool) (asid : Int) (k : K2) (one : Bool) (x : K2 × K2) : Bool := all || one && k2eq x.1.1 x.1.2 k.1 k.2 || !one && x.1.1 == asid
def keptAt (p : K2 × K2 → Bool) (l : List (K2 × K2)) (j : Nat) : List (K2 × K2) := (l.take j).filter (fun x => !p x)
theorem keptAt_succ (p : K2 × K2 → Bool) (l : List (K2 × K2)) (j : Nat) (x : K2 × K2) (hx : l[j]? = some x) : keptAt p l (j + 1) = if !p x then keptAt p l j ++ [x] else keptAt p l j := by
  unfold keptAt
  rw [List.take_add_one, hx, List.filter_append]
  cases h : p x <;> simp [h]
theorem keptAt_all (p : K2 × K2 → Bool) (l : List (K2 × K2)) : keptAt p l l.length = l.filter (fun x => !p x) := by simp [keptAt]
set_option maxHeartbeats 1000000 in
theorem rdrop_any {w : World} {b : Nat} {n : Int} {lv : Value} {l : List (K2 × K2)} (h : RTab w b n lv l) (hl : l.length ≤ 100000) (all : Bool) (asid : Int) (k : K2) (one : Bool) :
    Calls Try.prog 29 #[.pointer (some ⟨b, 0, none⟩), .bool all, .int .i64 asid, .agg #[.int .i64 k.1, .int .i64 k.2], .bool one] w fun e w' =>
      ∃ lv', e = .returned (.int .i64 (l.length - (l.filter (fun x => !goes all asid k one x)).length)) ∧ RTab w' b n lv' (l.filter (fun x => !goes all asid k one x)) ∧ Fr (fun q => q = b) w w' ∧ ∀ q, lv'.ownBlock = some q → w.heap.size ≤ q := by
  obtain ⟨A, N, C, rfl, hN⟩ := h.form
  have HN := Lib.hid hN
  clear hN
  have c1 : w.cell? ⟨b, 1, none⟩ = some (.slice A N C) := cell_of_ob h.blk 1
  have hb := h.lt
  have hN5 : N ≤ 100000 := by rw [HN.out]; exact hl
  obtain ⟨p, hp⟩ : ∃ p, p = goes all asid k one := ⟨_, rfl⟩
  have hP : ∀ x, goes all asid k one x = p x := fun x => by rw [hp]
  simp only [hP]
  have HP := Lib.hid hp
  clear hp hP
  go_enter Try.func29, Try.ntmps29
  go_wp2
  obtain ⟨W, hW⟩ : ∃ W, W = w.alloc (.cells #[.int .i64 k.1, .int .i64 k.2] 42) := ⟨_, rfl⟩
  rw [← hW]
  have hfr : Fr (fun _ => False) w W := by rw [hW]; exact (Fr.refl _ _).alloc _
  have hsz : W.heap.size = w.heap.size + 1 := by rw [hW]; simp
  have ok : ob W w.heap.size = some (.cells #[.int .i64 k.1, .int .i64 k.2] 42 (0, 0)) := by rw [hW, ob_new]
  have hT := h.fr hfr (fun _ _ h => h)
  clear hW
  go_loopw [11, 20] (fun left i wr => ∃ j : Nat, j ≤ N ∧ i = .int .i64 j ∧ Fr (fun _ => False) W wr ∧ Sl wr 53 4 left ((keptAt p l j).flatMap ents) ∧ ∀ q, left.ownBlock = some q → W.heap.size ≤ q) (fun _ i _ => N - (intOf i).toNat)
  case atStart => exact ⟨0, Nat.zero_le _, rfl, Fr.refl _ _, Sl.nil _ _ _, fun q hq => by cases hq⟩
  case round =>
    obtain ⟨j, hj, rfl, hfj, hleft, hown⟩ := hrel
    have ok2 := hfj.keep (fun h => h) ok
    have kc0 : wr.cell? ⟨w.heap.size, 0, none⟩ = some (.int .i64 k.1) := cell_of_ob ok2 0
    have kc1 : wr.cell? ⟨w.heap.size, 1, none⟩ = some (.int .i64 k.2) := cell_of_ob ok2 1
    have sk := ob_lt ok2
    by_cases hlt : j < N
    · obtain ⟨x, hx⟩ : ∃ x, l[j]? = some x := ⟨_, List.getElem?_eq_getElem (by have := HN.out; omega)⟩
      obtain ⟨g, off, n', cap', heq, hgl, hfz, x0, x1, x2, x3⟩ := (hT.row.fr hfj (fun _ _ h => h)).ent hx
      cases heq
      have HD := Lib.hid (keptAt_succ p l j x hx)
      have hk5 : (keptAt p l j).length ≤ 100000 := by
        unfold keptAt
        have := List.length_filter_le (fun x => !p x) (l.take j)
        simp at this
        omega
      have hlen : sliceLen u11 ≤ 100000 := by
        have h1 := hleft.len
        rw [len_ents] at h1
        omega
      obtain ⟨i0, hi, hz, hs, hby⟩ := info_of zeroKept
      clear hx hfz hk5
      go_upto_region 5 with fail
      go_cut [45] (fun s wx => s = .bool (!p x) ∧ wx = wr.alloc (.cells #[.int .i64 x.1.1, .int .i64 x.1.2, .int .i64 x.2.1, .int .i64 x.2.2] 53))
      case first =>
        cases all
        case true =>
          go_wp2
          go_meet
          exact ⟨by rw [HP.out]; rfl, rfl⟩
        case false =>
          cases one
          case true =>
            cases kk : k2eq x.1.1 x.1.2 k.1 k.2
            case true =>
              go_wp2
              go_meet
              exact ⟨by rw [HP.out]; unfold goes; rw [kk]; rfl, rfl⟩
            case false =>
              go_wp2
              go_meet
              exact ⟨by rw [HP.out]; unfold goes; rw [kk]; rfl, rfl⟩
          case false =>
            go_wp2
            go_meet
            exact ⟨by rw [HP.out]; rfl, rfl⟩
      case rest =>
        obtain ⟨rfl, rfl⟩ := hcut
        obtain ⟨X, hX⟩ : ∃ X, X = (!p x) := ⟨_, rfl⟩
        rw [← hX]
        have HX := Lib.hid hX
        clear hX
        cases X
        case false =>
          go_wp2
          go_roundw
          case rel =>
            refine ⟨j + 1, by omega, by go_num, hfj.alloc _, ?_, hown⟩
            rw [HD.out, ← HX.out]
            exact hleft.alloc _
          case measure => simp [intOf]; omega
        case true =>
          go_wp2_with (at_builtin; go_must (refine wpList_app (v := u11) rfl _ _ _ rfl Try.underlying49 hi hz hs hby rfl (by decide) rfl ((hleft.alloc _).alloc _) (wr.heap.size + 1) 1 1 (ents x) rfl (ob_newAt _ _ _ (by simp)) rfl (by simp [Value.oneCell', ents]) (by decide) (by simp only [maxLen]; omega) (by omega) ?_; intro v2 w3 hs2 hf3 ho2 hl2))
          go_wp2
          go_roundw
          case rel =>
            refine ⟨j + 1, by omega, by go_num, ((hfj.alloc _).alloc _).step hf3 (fun k hk => .inr (hown k hk)), ?_, ?_⟩
            · rw [HD.out, ← HX.out, if_pos rfl, List.flatMap_append]; simpa using hs2
            · intro q hq
              rcases ho2 with ho2 | ⟨r, ho2, hr⟩
              · exact hown q (ho2 ▸ hq)
              · rw [ho2] at hq; cases hq; simp at hr; have := hfj.size; omega
          case measure => simp [intOf]; omega
    · obtain rfl : j = N := by omega
      obtain ⟨A2, N2, C2, rfl⟩ : ∃ A N C, u11 = .slice A N C := by
        rcases hleft with ⟨rfl, _⟩ | ⟨g, off, n, cap, row, rfl, _⟩ <;> exact ⟨_, _, _, rfl⟩
      have hTj := hT.fr hfj (fun _ _ h => h)
      have d1 : wr.cell? ⟨b, 1, none⟩ = some (.slice A j C) := cell_of_ob hTj.blk 1
      have fb : wr.frozen? ⟨b, 1, none⟩ = false := frozen_of_ob hTj.blk 1
      have hbr := hTj.lt
      go_wp2
      go_ret
      have hje := HN.out
      subst hje
      rw [keptAt_all] at hleft
      have hln := hleft.len
      rw [len_ents] at hln
      simp only [sliceLen] at hln
      have hN2 : N2 = (l.filter (fun x => !p x)).length := by omega
      have hfl := List.length_filter_le (fun x : K2 × K2 => !p x) l
      refine ⟨.slice A2 N2 C2, ?_, ⟨ob_setCell_same hTj.blk _, hleft.of fun q hq => ob_setCell _ _ _ _ (fun e => by have := hown q hq; simp at e; omega)⟩, ((hfr.also hfj).mono' (fun _ h => h.elim)).setCell _ _ (.inl rfl), fun q hq => by have := hown q hq; omega⟩
      show Ending.returned (.int .i64 (wrap64 ((l.length : Int) - N2))) = _
      rw [hN2, show wrap64 ((l.length : Int) - ((l.filter fun x => !p x).length : Int)) = (l.length : Int) - ((l.filter fun x => !p x).length : Int) by unfold wrap64; omega]
/-- What a flush of the document's leaves behind. -/
def RFlushed (w : World) (b : Nat) (n : Int) (l : List (K2 × K2)) (w' : World) : Prop :=
  ∃ lv', RTab w' b n lv' l ∧ Fr (fun q => q = b) w w' ∧ ∀ q, lv'.ownBlock = some q → w.heap.size ≤ q
section
variable {w : World} {b : Nat} {n : Int} {lv : Value} {l : List (K2 × K2)}
theorem rflush_any (h : RTab w b n lv l) (hl : l.length ≤ 100000) (x : K2) :
    Calls Try.prog 18 #[.pointer (some ⟨b, 0, none⟩), .agg #[.int .i64 x.1, .int .i64 x.2]] w fun e w' =>
      e = .returned (.bool (decide ((0 : Int) < l.length - (l.filter (fun y => !(k2eq y.1.1 y.1.2 x.1 x.2))).length))) ∧ RFlushed w b n (l.filter (fun y => !(k2eq y.1.1 y.1.2 x.1 x.2))) w' := by
  have hb := h.lt
  go_enter Try.func18, Try.ntmps18
  go_wp2_with fail
  refine (rdrop_any (h.fr ((Fr.refl (fun _ => False) w).alloc _) (fun _ _ h => h)) hl false 0 x true).mono ?_
  simp only [goes, Bool.false_or, Bool.true_and, Bool.not_true, Bool.false_and, Bool.or_false]
  rintro e w1 ⟨lv', rfl, ht, hf, ho⟩
  go_wp2
  go_ret
  exact ⟨rfl, lv', ht, ((Fr.refl _ w).alloc _).step hf (fun k hk => .inl hk), fun k hk => by have := ho k hk; simp at this; omega⟩
theorem rflushAsid_any (h : RTab w b n lv l) (hl : l.length ≤ 100000) (x : Int) :
    Calls Try.prog 19 #[.pointer (some ⟨b, 0, none⟩), .int .i64 x] w fun e w' =>
      e = .returned (.int .i64 (l.length - (l.filter (fun y => !(y.1.1 == x))).length)) ∧ RFlushed w b n (l.filter (fun y => !(y.1.1 == x))) w' := by
  have hb := h.lt
  go_enter Try.func19, Try.ntmps19
  go_wp2_with fail
  refine (rdrop_any h hl false x (0, 0) false).mono ?_
  simp only [goes, Bool.false_or, Bool.true_and, Bool.not_false, Bool.false_and, Bool.or_false]
  rintro e w1 ⟨lv', rfl, ht, hf, ho⟩
  go_wp2
  go_ret
  exact ⟨rfl, lv', ht, hf, ho⟩
theorem rflushAll_any (h : RTab w b n lv l) (hl : l.length ≤ 100000) :
    Calls Try.prog 20 #[.pointer (some ⟨b, 0, none⟩)] w fun e w' => e = .returned (.int .i64 l.length) ∧ RFlushed w b n [] w' := by
  have hb := h.lt
  go_enter Try.func20, Try.ntmps20
  go_wp2_with fail
  refine (rdrop_any h hl true 0 (0, 0) false).mono ?_
  have e1 : l.filter (fun x => !goes true 0 (0, 0) false x) = [] := by simp [goes]
  rw [e1]
  rintro e w1 ⟨lv', rfl, ht, hf, ho⟩
  go_wp2
  go_ret
  exact ⟨by simp, lv', ht, hf, ho⟩
end
end Go.Proofs.Ytehgfhcpjeepkaa
