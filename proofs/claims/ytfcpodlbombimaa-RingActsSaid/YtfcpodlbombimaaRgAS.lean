/- ring: slices of string: Clone, IndexFunc, DeleteFunc with Remove's closure. Conditions: bounds on lengths. -/
import Derived.Test.YtfcpodlbombimaaIns
import Derived.Test.YtfcpodlbombimaaCanonH
import Derived.Test.YtfcpodlbombimaaMapsC
import Derived.Deep.DeepCutAuto
import Derived.Deep.QuietTactic
import Derived.BigQuiet
import Derived.Deep.RegionHeld3
namespace Go.Proofs.Ytfcpodlbombimaa
open Go.RowKit
set_option linter.unusedSimpArgs false
set_option linter.unusedVariables false
def kvS (x : ByteArray) : Value := Value.string x
abbrev kvsS (l : List ByteArray) : List Value := l.map kvS
theorem zeroS : (Try.prog.info? 9).map (fun i => (i.zero, i.size, i.bytes)) = some (some (Value.string ⟨#[]⟩), 1, 16) := by kernel_rfl
theorem infoofS {P : Program} {e : TypeId} {z : Value} {s b : Nat} (h : (P.info? e).map (fun i => (i.zero, i.size, i.bytes)) = some (some z, s, b)) : ∃ i, P.info? e = some i ∧ i.zero = some z ∧ i.size = s ∧ i.bytes = b := by
  cases hi : P.info? e with
  | none => rw [hi] at h; cases h
  | some i => rw [hi] at h; simp at h; exact ⟨i, rfl, h.1, h.2.1, h.2.2⟩
theorem alsoS {w w1 w2 : World} (h : Fr (fun _ => False) w w1) (k : Fr (fun _ => False) w1 w2) : Fr (fun _ => False) w w2 := h.step k (fun _ h => h.elim)
theorem drewNS {S : Nat → Prop} {w w1 : World} (h : Fr S w w1) (n : Nat) : Fr S w (w1.drewN n) := ⟨h.os, h.tape, h.output, h.size, h.block⟩
/-- A slice of items. -/
abbrev SKS (w : World) (v : Value) (l : List ByteArray) : Prop := Sl w 9 1 v (kvsS l)
theorem SKS.elen {w : World} {v : Value} {l : List ByteArray} (h : SKS w v l) : sliceLen v = l.length := by
  have := h.len; simp only [List.length_map] at this; omega
theorem oneS (l : List ByteArray) : ∀ u ∈ kvsS l, u.oneCell' = true := by
  intro u hu
  obtain ⟨x, _, rfl⟩ := List.mem_map.1 hu
  rfl
theorem SKS.item {w : World} {v : Value} {l : List ByteArray} (h : SKS w v l) {j : Nat} {x : ByteArray} (hx : l[j]? = some x) :
    ∃ g off n cap, v = .slice (some ⟨g, off, none⟩) n cap ∧ g < w.heap.size ∧ (∀ i, w.frozen? ⟨g, i, none⟩ = false) ∧ n = l.length ∧ w.cell? ⟨g, off + j, none⟩ = some (Value.string x) := by
  have hj : (kvsS l)[j]? = some (Value.string x) := by rw [List.getElem?_map, hx]; rfl
  obtain ⟨g, off, n', cap', heq, hgl, hcs, hfz, hl⟩ := h.form (by intro e; rw [e] at hj; cases hj)
  simp only [List.length_map] at hl
  exact ⟨g, off, n', cap', heq, hgl, hfz, by omega, hcs _ _ hj⟩
theorem SKS.set {w : World} {g off n cap : Nat} {l : List ByteArray} (h : SKS w (.slice (some ⟨g, off, none⟩) n cap) l) {i : Nat} (hi : i < l.length) (x : ByteArray) :
    SKS (w.setCell ⟨g, off + i, none⟩ (Value.string x)) (.slice (some ⟨g, off, none⟩) n cap) (l.set i x) := by
  have := Sl.put h i [Value.string x] (by simp; omega)
  simp only [World.setCells, List.length_cons, List.length_nil] at this
  have e1 : kvsS (l.set i x) = (kvsS l).take i ++ [Value.string x] ++ (kvsS l).drop (i + (0 + 1)) := by
    show (l.set i x).map kvS = _
    rw [List.map_set, List.set_eq_take_append_cons_drop, if_pos (by simpa using hi)]
    simp; rfl
  unfold SKS
  rw [e1]
  exact this
theorem cloneS_any {w : World} {v : Value} {l : List ByteArray} (h : SKS w v l) (hl : l.length ≤ 5000) :
    Calls Try.prog 58 #[v] w fun e w' => ∃ v', e = .returned v' ∧ SKS w' v' l ∧ Fr (fun _ => False) w w' ∧ ∀ k, v'.ownBlock = some k → w.heap.size ≤ k := by
  have hN := h.elen
  have hN5 : sliceLen v ≤ 5000 := by omega
  obtain ⟨i0, hi, hz, hsz, hby⟩ := infoofS zeroS
  have h1 := oneS l
  have hrd := Sl.rd h
  go_enter Try.func58, Try.ntmps58
  rcases id hrd with ⟨rfl, hnil⟩ | ⟨A, N, C, rfl, -, -⟩
  · have hl0 : l = [] := by cases l with | nil => rfl | cons a r => simp at hnil
    subst hl0
    go_wp2
    go_ret
    exact ⟨_, rfl, Sl.nil _ _ _, Fr.refl _ _, fun k hk => by cases hk⟩
  · clear hN
    go_upto_region 3 with fail
    go_wp2_with (at_builtin; go_must (refine wpList_apprd (y := .slice (some A) N C) (v := .slice (some ⟨w.heap.size, 0, none⟩) 0 0) rfl _ _ _ rfl Try.underlying71 hi hz hsz hby rfl (by decide) rfl (Sl.builtAt w [] 0 w.heap.size rfl rfl (by decide)) rfl (hrd.of ((Fr.refl (fun _ => False) w).alloc _) (fun _ h => h.elim)) h1 (by simp only [maxLen, sliceLen] at *; omega) (by simp only [sliceLen] at *; omega) ?_; intro v' W h2 h3 h4 h5))
    go_wp2
    go_ret
    refine ⟨v', rfl, by simpa using h2, (((Fr.refl _ w).alloc _).step h3 (fun k hk => .inr (by cases hk; exact Nat.le_refl _))), fun k hk => ?_⟩
    rcases h4 with h4 | ⟨q, h4, hq⟩
    · rw [h4] at hk; cases hk; exact Nat.le_refl _
    · rw [h4] at hk; cases hk; simp at hq; omega
theorem neBS (x y : ByteArray) (hx : ¬ x = y) : (x == y) = false := by
  cases h : (x == y) with
  | false => rfl
  | true =>
    have h2 : (x.data == y.data) = true := h
    exact absurd (ByteArray.ext (eq_of_beq h2)) hx
theorem decTS (y : ByteArray) : decide (y = y) = true := decide_eq_true rfl
/-- Remove's closure: is it the item? -/
theorem rem1S_any {W : World} {bi : Nat} {y : ByteArray} (h : ob W bi = some (.cells #[Value.string y] 9 (0, 0))) (x : ByteArray) :
    Calls Try.prog 62 #[Value.string x, .pointer (some ⟨bi, 0, none⟩)] W fun e W' => e = .returned (.bool (decide (x = y))) ∧ W = W' := by
  have c0 : W.cell? ⟨bi, 0, none⟩ = some (Value.string y) := cell_of_ob h 0
  have s0 := ob_lt h
  by_cases hx : x = y
  · subst hx
    go_enter Try.func62, Try.ntmps62
    go_wp2
    go_ret
    exact ⟨by first | rfl | (rw [decide_eq_true trivial]; rfl) | simp, rfl⟩
  · have hb : (x == y) = false := by first | (simp [hx]; done) | exact beq_eq_false_iff_ne.2 hx | exact neBS x y hx
    go_enter Try.func62, Try.ntmps62
    go_wp2
    go_ret
    exact ⟨by first | (simp [hx]; done) | (have h2 : (x.toList == y.toList) = false := (beq_toListBytes x y).symm.trans hb; simp at h2; simp [hx, h2]), rfl⟩
set_option maxRecDepth 100000 in
set_option maxHeartbeats 4000000 in
theorem indexS_any {W : World} {bi : Nat} {y : ByteArray} (h : ob W bi = some (.cells #[Value.string y] 9 (0, 0))) {v : Value} {l : List ByteArray} (hs : SKS W v l) (hl : l.length ≤ 5000) :
    Calls Try.prog 64 #[v, .func (.func 62) #[] #[.pointer (some ⟨bi, 0, none⟩)]] W fun e W' =>
      ∃ r : Nat, (∀ t x, t < r → l[t]? = some x → x ≠ y) ∧ W = W' ∧ ((r = l.length ∧ e = .returned (.int .i64 (-1))) ∨ (l[r]? = some y ∧ e = .returned (.int .i64 r))) := by
  obtain ⟨A, N, C, rfl⟩ := hs.shape
  have hN : N = l.length := SKS.elen hs
  have hN5 : N ≤ 5000 := by omega
  have HN := Lib.hid hN
  clear hN hl
  go_enter Try.func64, Try.ntmps64
  go_wp2_with fail
  go_loopw [8] (fun v wr => ∃ i : Nat, i ≤ N ∧ v = .int .i64 i ∧ Hid (∀ t x, t < i → l[t]? = some x → x ≠ y) ∧ Hid (wr = W)) (fun v _ => N - (intOf v).toNat)
  case atStart => exact ⟨0, by omega, rfl, Lib.hid (fun t x ht _ => absurd ht (Nat.not_lt_zero _)), Lib.hid rfl⟩
  case round =>
    obtain ⟨i, hiN, rfl, HB, HWR⟩ := hrel
    obtain rfl := HWR.out
    clear HWR
    by_cases hlt : i < N
    · obtain ⟨x, hx⟩ : ∃ x, l[i]? = some x := ⟨_, List.getElem?_eq_getElem (by have := HN.out; omega)⟩
      obtain ⟨g, off, n', cap', heq, hgl, -, -, c0⟩ := SKS.item hs hx
      cases heq
      have HX := Lib.hid hx
      clear hx
      by_cases hxy : x = y
      · subst hxy
        go_wp2_with fail
        refine (rem1S_any h x).mono ?_
        rw [decide_eq_true (rfl : x = x)]
        rintro e w2 ⟨rfl, rfl⟩
        go_wp2
        go_ret
        exact ⟨i, HB.out, rfl, .inr ⟨HX.out, rfl⟩⟩
      · have HXY := Lib.hid hxy
        clear hxy
        go_wp2_with fail
        refine (rem1S_any h x).mono ?_
        rw [decide_eq_false HXY.out]
        rintro e w2 ⟨rfl, rfl⟩
        go_wp2
        go_roundw
        case rel =>
          refine ⟨i + 1, by omega, by go_num, Lib.hid (fun t z ht hz => ?_), Lib.hid (by trivial)⟩
          by_cases ht2 : t < i
          · exact HB.out t z ht2 hz
          · obtain rfl : t = i := by omega
            have := HX.out; rw [hz] at this; cases this; exact HXY.out
        case measure => simp [intOf]; omega
    · obtain rfl : i = N := by omega
      go_wp2
      go_ret
      exact ⟨i, HB.out, rfl, .inl ⟨HN.out, rfl⟩⟩
theorem filt_uptoS {l : List ByteArray} {y : ByteArray} {r : Nat} (h : ∀ t x, t < r → l[t]? = some x → x ≠ y) : (l.take r).filter (fun x => !decide (x = y)) = l.take r :=
  List.filter_eq_self.2 fun x hx => by
    obtain ⟨t, ht, hx2⟩ := List.getElem_of_mem hx
    have hxt : (l.take r)[t]? = some x := by rw [List.getElem?_eq_getElem ht, hx2]
    have htr : t < r := by rw [List.length_take] at ht; omega
    rw [List.getElem?_take, if_pos htr] at hxt
    simp [h t x htr hxt]
theorem filt_snocS {l : List ByteArray} {p : ByteArray → Bool} {j : Nat} {x : ByteArray} (hx : l[j]? = some x) : (l.take (j + 1)).filter p = (l.take j).filter p ++ if p x then [x] else [] := by
  rw [List.take_add_one, hx, List.filter_append]
  congr 1
  cases hp : p x <;> simp [List.filter_cons, hp]
theorem run_clear1S (w : World) (t e ty : TypeId) (z : Value) (ht : Try.prog.underlying t = some (.slice e)) (hv : ∀ w, (zeroValue e).run Try.prog w = .ok z w) (hz : z.cells = #[z]) (h1 : z.oneCell' = true) (b o n c : Nat) (hn : 0 < n)
    (hc : ∀ j, j < n → (w.cell? ⟨b, o + j, none⟩).isSome = true) (hf : ∀ j, j < n → w.frozen? ⟨b, o + j, none⟩ = false) :
    (Builtin.clear_ #[t] ty #[.slice (some ⟨b, o, none⟩) n c]).run Try.prog w = .ok (.tuple #[]) (w.setCells b o (List.replicate n z)) := by
  have hzc : (Builtin.zeroCells z.cells n).toList = List.replicate n z := by
    rw [hz]
    simp [Builtin.zeroCells]
    apply List.ext_getElem
    · simp
    · intro i h1 h2
      simp [Nat.mod_one]
  have hst := run_storeCells_cells (P := Try.prog) b o (List.replicate n z) 0 w (by simpa using hc) (by simpa using hf) (by intro v hv'; rw [List.eq_of_mem_replicate hv']; exact h1)
  simp only [Nat.add_zero] at hst
  obtain ⟨m, rfl⟩ : ∃ m, n = m + 1 := ⟨n - 1, by omega⟩
  simp [Builtin.clear_, run_underlying ht, hv, hzc, hst]
theorem headS {w : World} {e : TypeId} {cs : List Value} {g off n cap : Nat} (h : Sl w e 1 (.slice (some ⟨g, off, none⟩) n cap) cs) (k : Nat) (hk : k ≤ n) : Sl w e 1 (.slice (some ⟨g, off, none⟩) k cap) (cs.take k) := by
  rcases h with ⟨h0, _⟩ | ⟨g', off', n', cap', row, heq, ho, hl, hc, hm, hs, ht⟩
  · cases h0
  · cases heq
    refine .inr ⟨g, off, k, cap, row, rfl, ho, by rw [List.length_take, hl]; omega, by omega, hm, hs, ?_⟩
    rw [← ht, List.take_take]
    congr 1; omega
set_option maxRecDepth 100000 in
set_option maxHeartbeats 4000000 in
theorem deleteS_any {W : World} {bi : Nat} {y : ByteArray} (h : ob W bi = some (.cells #[Value.string y] 9 (0, 0))) {v : Value} {l : List ByteArray} (hs : SKS W v l) (hown : ∀ k, v.ownBlock = some k → k ≠ bi) (hl : l.length ≤ 5000) :
    Calls Try.prog 61 #[v, .func (.func 62) #[] #[.pointer (some ⟨bi, 0, none⟩)]] W fun e W' =>
      ∃ v', e = .returned v' ∧ SKS W' v' (l.filter (fun x => !decide (x = y))) ∧ Fr (fun k => v.ownBlock = some k) W W' ∧ v'.ownBlock = v.ownBlock := by
  obtain ⟨A, N, C, rfl⟩ := hs.shape
  have hN : N = l.length := SKS.elen hs
  have hN5 : N ≤ 5000 := by omega
  have hix := indexS_any h hs hl
  have HN := Lib.hid hN
  have HO := Lib.hid hown
  have HS := Lib.hid hs
  clear hN hl hown
  go_enter Try.func61, Try.ntmps61
  go_wp2_with fail
  refine hix.mono ?_
  rintro e w1 ⟨r, hB, rfl, hor⟩
  clear hix
  have hfu := filt_uptoS hB
  have HFU := Lib.hid hfu
  rcases hor with ⟨hr, rfl⟩ | ⟨hx, rfl⟩
  · have FU := Lib.hid (show l.filter (fun x => !decide (x = y)) = l by rw [hr, List.take_length] at hfu; exact hfu)
    clear hB hs hfu hr
    go_wp2
    go_ret
    exact ⟨_, rfl, by rw [FU.out]; exact HS.out, Fr.refl _ _, rfl⟩
  · obtain ⟨g, off, n', cap', heq, -, -, -, -⟩ := SKS.item hs hx
    cases heq
    have hrN : r < N := by rw [HN.out]; exact (List.getElem?_eq_some_iff.1 hx).1
    have ST := Lib.hid (show (l.take (r + 1)).filter (fun x => !decide (x = y)) = l.take r by rw [filt_snocS hx, HFU.out]; simp)
    clear hB hs hfu hx
    go_wp2_with fail
    go_loopw [5, 6] (fun si sj wr => ∃ (i j : Nat) (cur : List ByteArray), i < j ∧ j ≤ N ∧ si = .int .i64 i ∧ sj = .int .i64 j ∧ Hid (cur.length = l.length ∧ cur.take i = (l.take j).filter (fun x => !decide (x = y)) ∧ cur.drop j = l.drop j) ∧ SKS wr (.slice (some ⟨g, off, none⟩) N C) cur ∧
        Fr (fun k => k = g) W wr) (fun _ sj _ => N - (intOf sj).toNat)
    case atStart => exact ⟨r, r + 1, l, by omega, by omega, rfl, by go_num, Lib.hid ⟨rfl, ST.out.symm, rfl⟩, HS.out, Fr.refl _ _⟩
    case round =>
      obtain ⟨i, j, cur, hij, hjN, rfl, rfl, HC, hsr, hf⟩ := hrel
      have hob : ob wr bi = some (.cells #[Value.string y] 9 (0, 0)) := hf.keep (fun e => HO.out g rfl e.symm) h
      by_cases hlt : j < N
      · obtain ⟨x, hx⟩ : ∃ x, l[j]? = some x := ⟨_, List.getElem?_eq_getElem (by have := HN.out; omega)⟩
        have hcx : cur[j]? = some x := by
          have h1 : (cur.drop j)[0]? = (l.drop j)[0]? := by rw [HC.out.2.2]
          rw [List.getElem?_drop, List.getElem?_drop] at h1
          simpa [hx] using h1
        have hcl : cur.length = N := by have := HC.out.1; have := HN.out; omega
        have HCL := Lib.hid hcl
        obtain ⟨xi, hxi⟩ : ∃ z, cur[i]? = some z := ⟨_, List.getElem?_eq_getElem (by omega)⟩
        obtain ⟨g', off', n', cap', heq, hgl, hfz, -, c0⟩ := SKS.item hsr hcx
        cases heq
        obtain ⟨g', off', n', cap', heq, -, -, -, d0⟩ := SKS.item hsr hxi
        cases heq
        have z0 := hfz (off + i)
        have HX := Lib.hid hx
        have F := Lib.hid (filt_snocS (p := fun x => !decide (x = y)) hx)
        have hiN : i < N := by omega
        clear hx hcx hcl hxi hfz
        have hcall := rem1S_any hob x
        by_cases hxy : x = y
        · rw [decide_eq_true hxy] at hcall
          have F2 := Lib.hid (show (l.take (j + 1)).filter (fun x => !decide (x = y)) = (l.take j).filter (fun x => !decide (x = y)) by rw [F.out, hxy]; simp)
          clear hxy
          go_wp2_with fail
          refine hcall.mono ?_
          rintro e w2 ⟨rfl, rfl⟩
          clear hcall
          go_wp2
          go_roundw
          case rel =>
            (repeat apply Exists.intro)
            refine ⟨⟨i, j + 1, cur, by omega, by omega, rfl, by go_num, Lib.hid ⟨HC.out.1, by rw [F2.out]; exact HC.out.2.1, ?_⟩, hsr, hf⟩, rfl⟩
            have h1 := congrArg (List.drop 1) HC.out.2.2
            rw [List.drop_drop, List.drop_drop] at h1; exact h1
          case measure => simp [intOf]; omega
        · rw [decide_eq_false hxy] at hcall
          have F2 := Lib.hid (show (l.take (j + 1)).filter (fun x => !decide (x = y)) = (l.take j).filter (fun x => !decide (x = y)) ++ [x] by rw [F.out]; simp [hxy])
          clear hxy
          go_wp2_with fail
          refine hcall.mono ?_
          rintro e w2 ⟨rfl, rfl⟩
          clear hcall
          have h1 := SKS.set hsr (i := i) (by have := HCL.out; omega) x
          have H1 := Lib.hid h1
          have HF3 := Lib.hid (hf.setCell ⟨g, off + i, none⟩ (Value.string x) (.inl rfl))
          clear h1
          go_wp2
          go_roundw
          case rel =>
            (repeat apply Exists.intro)
            refine ⟨⟨i + 1, j + 1, cur.set i x, by omega, by omega, by go_num, by go_num, Lib.hid ⟨by rw [List.length_set]; exact HC.out.1, ?_, ?_⟩, H1.out, HF3.out⟩, rfl⟩
            · have hic : i < cur.length := by have := HCL.out; omega
              have e1 : (cur.set i x).take (i + 1) = cur.take i ++ [x] := by
                rw [List.set_eq_take_append_cons_drop, if_pos hic]
                have hlt : (cur.take i).length = i := by rw [List.length_take]; omega
                rw [List.take_append, hlt, show i + 1 - i = 1 by omega, List.take_of_length_le (by omega)]
                simp
              rw [e1, F2.out, HC.out.2.1]
            · have h1 := congrArg (List.drop 1) HC.out.2.2
              rw [List.drop_drop, List.drop_drop] at h1
              rw [← h1, List.drop_set_of_lt (by omega)]
          case measure => simp [intOf]; omega
      · obtain rfl : j = N := by omega
        have hjl : j = l.length := HN.out
        have hcj : cur.length = j := by have := HC.out.1; omega
        obtain ⟨hNC, hCm⟩ := Sl.ncap hsr
        have hC9 : C ≤ 9223372036854775807 := by simp only [maxLen] at hCm; omega
        have hCi : ¬ (C = i) := by omega
        have hij2 : i ≤ j := by omega
        have hput := Sl.put hsr i (List.replicate (j - i) (Value.string ⟨#[]⟩)) (by simp; omega)
        have hcl : ∀ ty dc, (Builtin.clear_ #[71] ty #[.slice (some ⟨g, off + i, none⟩) (j - i) dc]).run Try.prog wr = .ok (.tuple #[]) (wr.setCells g (off + i) (List.replicate (j - i) (Value.string ⟨#[]⟩))) := fun ty dc => by
          rcases id hsr with ⟨h0, _⟩ | ⟨g', off', n', cap', row, heq, ho, hl', hc', hm', hs', ht'⟩
          · cases h0
          · cases heq
            exact run_clear1S wr 71 9 ty (Value.string ⟨#[]⟩) Try.underlying71 Try.zeroValue9 rfl rfl g (off + i) (j - i) dc (by omega)
              (fun q hq => by rw [cell_of_ob ho, Array.getElem?_eq_getElem (by omega)]; rfl) (fun q hq => frozen_of_ob ho _)
        have hhead := headS hput i (by omega)
        have hres : SKS (wr.setCells g (off + i) (List.replicate (j - i) (Value.string ⟨#[]⟩))) (.slice (some ⟨g, off, none⟩) i C) (l.filter (fun x => !decide (x = y))) := by
          have e1 : ((kvsS cur).take i ++ List.replicate (j - i) (Value.string ⟨#[]⟩) ++ (kvsS cur).drop (i + (List.replicate (j - i) (Value.string ⟨#[]⟩)).length)).take i = kvsS (l.filter (fun x => !decide (x = y))) := by
            rw [List.append_assoc, List.take_append_of_le_length (by rw [List.length_take]; simp; omega), List.take_take, Nat.min_self]
            have := HC.out.2.1
            rw [hjl, List.take_length] at this
            rw [← this]
            simp [kvsS, List.map_take]
          unfold SKS
          rw [← e1]
          exact hhead
        have hf3 : Fr (fun k => (Value.slice (some ⟨g, off, none⟩) j C).ownBlock = some k) W (wr.setCells g (off + i) (List.replicate (j - i) (Value.string ⟨#[]⟩))) :=
          (hf.step (fr_setCells _ _ wr) (S := fun k => k = g) (fun k hk => .inl hk)).mono' (fun k hk => by rw [hk]; rfl)
        have HRES := Lib.hid hres
        have HF3 := Lib.hid hf3
        clear hres hf3 hhead hput hjl hcj
        go_wp2
        go_ret
        exact ⟨_, rfl, HRES.out, HF3.out, rfl⟩
end Go.Proofs.Ytfcpodlbombimaa
