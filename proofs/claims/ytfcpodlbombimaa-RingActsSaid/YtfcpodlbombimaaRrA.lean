/- pantryref02.Rows in memory: New, Is, All, Where, total, may, First. No conditions but bounds on lengths. -/
import Derived.Test.YtfcpodlbombimaaRgOS
import Derived.Test.YtfcpodlbombimaaStar
import Derived.Test.YtfcpodlbombimaaStep
namespace Go.Proofs.Ytfcpodlbombimaa
open Go.RowKit
set_option linter.unusedSimpArgs false
set_option linter.unusedVariables false
/-- The document's rows. -/
structure RR (w : World) (b r : Nat) (vs : List Value) (L : List (List Int)) : Prop where
  blk : ob w b = some (.cells #[.slice (some ⟨r, 0, none⟩) L.length L.length] 66 (0, 0))
  rows : ob w r = some (.cells vs.toArray 22 (0, 0))
  vlen : vs.length = L.length
  row : ∀ (i : Nat) v l, vs[i]? = some v → L[i]? = some l → SKI w v l
  off : ∀ (i : Nat) v k, vs[i]? = some v → v.ownBlock = some k → k ≠ b ∧ k ≠ r
  br : b ≠ r
  few : L.length ≤ 64
def RRS (b r : Nat) (vs : List Value) (k : Nat) : Prop := k = b ∨ k = r ∨ ∃ v ∈ vs, v.ownBlock = some k
def RRX (b r : Nat) (L : List (List Int)) : Thing := fun w S => ∃ vs, RR w b r vs L ∧ ∀ k, RRS b r vs k → S k
section
variable {w w1 : World} {b r : Nat} {vs : List Value} {L : List (List Int)} {S : Nat → Prop}
theorem RR.lt (h : RR w b r vs L) {k : Nat} (hk : RRS b r vs k) : k < w.heap.size := by
  rcases hk with rfl | rfl | ⟨v, hv, hk⟩
  · exact ob_lt h.blk
  · exact ob_lt h.rows
  · obtain ⟨i, hi, rfl⟩ := List.getElem_of_mem hv
    have hl : L[i]? = some (L[i]'(by rw [← h.vlen]; exact hi)) := List.getElem?_eq_getElem _
    exact Sl.lt (h.row i _ _ (List.getElem?_eq_getElem hi) hl) hk
theorem RR.fr (h : RR w b r vs L) (hf : Fr S w w1) (hn : ∀ k, RRS b r vs k → ¬ S k) : RR w1 b r vs L where
  blk := hf.keep (hn _ (.inl rfl)) h.blk
  rows := hf.keep (hn _ (.inr (.inl rfl))) h.rows
  vlen := h.vlen
  row i v l hv hl := Sl.fr (h.row i v l hv hl) hf (fun k hk => hn k (.inr (.inr ⟨v, List.mem_of_getElem? hv, hk⟩)))
  off := h.off
  br := h.br
  few := h.few
theorem RR.keep (h : RR w b r vs L) (hf : Fr (fun _ => False) w w1) : RR w1 b r vs L := h.fr hf (fun _ _ h => h)
theorem RRX.steady : Steady (RRX b r L) where
  fr := fun ⟨vs, h, hs⟩ hf hn => ⟨vs, h.fr hf (fun k hk => hn k (hs k hk) (h.lt hk)), hs⟩
  cut := fun ⟨vs, h, hs⟩ => ⟨vs, h, fun k hk => ⟨hs k hk, h.lt hk⟩⟩
  wide := fun ⟨vs, h, hs⟩ hw => ⟨vs, h, fun k hk => hw k (hs k hk)⟩
/-- One row is another, in a block that was not there. -/
theorem RR.setrow (h : RR w b r vs L) {j : Nat} (hj : j < L.length) {v2 : Value} {l2 : List Int} (hf : Fr (fun _ => False) w w1) (hs : SKI w1 v2 l2) (ho : ∀ k, v2.ownBlock = some k → w.heap.size ≤ k) :
    RR (w1.setCell ⟨r, j, none⟩ v2) b r (vs.set j v2) (L.set j l2) ∧ Fr (fun k => k = r) w (w1.setCell ⟨r, j, none⟩ v2) ∧ ∀ k, RRS b r (vs.set j v2) k → RRS b r vs k ∨ w.heap.size ≤ k := by
  have hb := h.lt (.inl rfl)
  have hr := h.lt (.inr (.inl rfl))
  have hjv : j < vs.length := by rw [h.vlen]; exact hj
  have h1 := h.keep hf
  have hold : ∀ (i : Nat) u, i ≠ j → (vs.set j v2)[i]? = some u → vs[i]? = some u := fun i u hi hu => by rwa [List.getElem?_set_ne (fun e => hi e.symm)] at hu
  have hnew : ∀ u, (vs.set j v2)[j]? = some u → u = v2 := fun u hu => by rw [List.getElem?_set_self hjv] at hu; cases hu; rfl
  refine ⟨?_, (hf.mono' (fun _ h => h.elim)).setCell _ _ (.inl rfl), fun k hk => ?_⟩
  · exact {
      blk := by rw [List.length_set]; exact (ob_setCell _ _ _ _ h.br).trans h1.blk
      rows := by rw [ob_setCell_same h1.rows]; simp
      vlen := by simp [h.vlen]
      row := fun i u l hu hl => by
        by_cases hi : i = j
        · subst hi
          obtain rfl := hnew u hu
          rw [List.getElem?_set_self hj] at hl
          cases hl
          exact Sl.of hs (fun k hk => ob_setCell _ _ _ _ (by have := ho k hk; show k ≠ r; omega))
        · have hu2 := hold i u hi hu
          rw [List.getElem?_set_ne (fun e => hi e.symm)] at hl
          exact Sl.of (h1.row i u l hu2 hl) (fun k hk => ob_setCell _ _ _ _ (h.off i u k hu2 hk).2)
      off := fun i u k hu hk => by
        by_cases hi : i = j
        · subst hi
          obtain rfl := hnew u hu
          have := ho k hk
          exact ⟨by omega, by omega⟩
        · exact h.off i u k (hold i u hi hu) hk
      br := h.br
      few := by simpa using h.few }
  · rcases hk with rfl | rfl | ⟨u, hu, hk⟩
    · exact .inl (.inl rfl)
    · exact .inl (.inr (.inl rfl))
    · obtain ⟨i, hi⟩ := List.mem_iff_getElem?.1 hu
      by_cases hij : i = j
      · subst hij
        obtain rfl := hnew u hi
        exact .inr (ho k hk)
      · exact .inl (.inr (.inr ⟨u, List.mem_of_getElem? (hold i u hij hi), hk⟩))
theorem RR.at (h : RR w b r vs L) {j : Nat} (hj : j < L.length) : ∃ l A N C, L[j]? = some l ∧ vs[j]? = some (.slice A N C) ∧ SKI w (.slice A N C) l ∧ N = l.length ∧
    w.cell? ⟨b, 0, none⟩ = some (.slice (some ⟨r, 0, none⟩) L.length L.length) ∧ w.cell? ⟨r, j, none⟩ = some (.slice A N C) ∧ (∀ i, w.frozen? ⟨r, i, none⟩ = false) ∧ L.length ≤ 64 := by
  obtain ⟨l, hl⟩ : ∃ l, L[j]? = some l := ⟨_, List.getElem?_eq_getElem (by omega)⟩
  obtain ⟨v, hv⟩ : ∃ v, vs[j]? = some v := ⟨_, List.getElem?_eq_getElem (by rw [h.vlen]; omega)⟩
  have hs := h.row j v l hv hl
  have hlen := SKI.elen hs
  obtain ⟨A, N, C, rfl⟩ := hs.shape
  exact ⟨l, A, N, C, hl, hv, hs, hlen, cell_of_ob h.blk 0, by rw [cell_of_ob h.rows]; simpa using hv, fun i => frozen_of_ob h.rows i, h.few⟩
end
theorem rnew_no (n : Int) (hn : n < 1 ∨ 64 < n) (w : World) : Calls Try.prog 24 #[.int .i64 n] w fun e w' => e = .returned (.pointer none) ∧ w' = w := by
  rcases hn with h | h
  · go_enter Try.func24, Try.ntmps24
    go_wp2
    go_ret
    exact ⟨rfl, rfl⟩
  · have h2 : ¬ n < 1 := by omega
    have h3 : 1 ≤ n := by omega
    go_enter Try.func24, Try.ntmps24
    go_wp2
    go_ret
    exact ⟨rfl, rfl⟩
theorem rnew_any (n : Nat) (h0 : 1 ≤ n) (h1 : n ≤ 64) (w : World) :
    Calls Try.prog 24 #[.int .i64 n] w fun e w' => ∃ b r, e = .returned (.pointer (some ⟨b, 0, none⟩)) ∧ RRX b r (List.replicate n []) w' (fun k => w.heap.size ≤ k) ∧ Fr (fun _ => False) w w' := by
  obtain ⟨i0, hi, hz, hsz, hby⟩ := infoofI inforowI
  have hmk := run_make (P := Try.prog) (w := w) 50 22 i0 (.slice none 0 0) Try.underlying50 hi hz .i64 .i64 n n (by omega) (by omega) (by rw [hby]; omega) (by omega)
  have hmc : madeCells (Value.slice none 0 0).cells (n * 1) = (List.replicate n (Value.slice none 0 0)).toArray := by
    rw [← Array.toList_inj]
    show (madeCells #[.slice none 0 0] (n * 1)).toList = _
    rw [toList_madeCells_one]; simp
  simp only [Int.toNat_natCast, hsz, hmc] at hmk
  go_enter Try.func24, Try.ntmps24
  go_wp2
  go_ret
  have hf : Fr (fun _ => False) w ((w.alloc (.cells (Array.replicate n (.slice none 0 0)) 22)).alloc (.cells #[.slice (some ⟨w.heap.size, 0, none⟩) n n] 66)) := ((Fr.refl _ w).alloc _).alloc _
  refine ⟨w.heap.size + 1, w.heap.size, by simp, ⟨List.replicate n (.slice none 0 0), ⟨?_, ?_, ?_, ?_, ?_, ?_, ?_⟩, ?_⟩, hf⟩
  · rw [ob_newAt _ _ _ (by simp)]; simp
  · rw [ob_alloc _ _ _ (by simp), ob_newAt _ _ _ rfl]; simp
  · simp
  · intro i v l hv hl
    rw [vsnewI n i v hv, show l = [] from List.eq_of_mem_replicate (List.mem_of_getElem? hl)]
    exact Sl.nil _ _ _
  · intro i v k hv hk
    rw [vsnewI n i v hv] at hk; cases hk
  · omega
  · simp; omega
  · intro k hk
    rcases hk with rfl | rfl | ⟨v, hv, hk⟩
    · omega
    · omega
    · rw [List.eq_of_mem_replicate hv] at hk; cases hk
section
variable {w : World} {b r : Nat} {vs : List Value} {L : List (List Int)}
theorem ris_any (h : RR w b r vs L) (n : Int) : Calls Try.prog 48 #[.pointer (some ⟨b, 0, none⟩), .int .i64 n] w fun e w' => e = .returned (.bool (decide (0 ≤ n ∧ n < L.length))) ∧ w' = w := by
  have c0 := cell_of_ob h.blk 0
  obtain ⟨q, hq⟩ : ∃ q, decide (0 ≤ n ∧ n < (L.length : Int)) = q := ⟨_, rfl⟩
  rw [hq]
  go_enter Try.func48, Try.ntmps48
  go_wp2
  all_goals go_ret
  · exact ⟨by rw [← hq]; simp; omega, rfl⟩
  · exact ⟨by rw [← hq]; simp; omega, rfl⟩
theorem rall_any (h : RR w b r vs L) (n : Int) : Calls Try.prog 33 #[.pointer (some ⟨b, 0, none⟩), .int .i64 n] w fun e w' => ∃ A N C, e = .returned (.slice A N C) ∧ SKI w (.slice A N C) (rowAtI L n) ∧ w' = w := by
  have his := ris_any h n
  by_cases hn : 0 ≤ n ∧ n < (L.length : Int)
  · obtain ⟨j, rfl⟩ : ∃ j : Nat, n = j := ⟨n.toNat, by omega⟩
    have hjL : j < L.length := by omega
    obtain ⟨l, A, N, C, hl, hv, hs, hN, c0, c1, hf, hfew⟩ := h.at hjL
    rw [decide_eq_true hn] at his
    rw [rowAtI_in hl]
    clear hN hn
    go_enter Try.func33, Try.ntmps33
    go_wp2_with fail
    refine his.mono ?_
    rintro e w1 ⟨rfl, rfl⟩
    clear his
    go_wp2
    go_ret
    exact ⟨A, N, C, rfl, hs, rfl⟩
  · rw [decide_eq_false hn] at his
    rw [rowAtI_out hn]
    clear hn
    go_enter Try.func33, Try.ntmps33
    go_wp2_with fail
    refine his.mono ?_
    rintro e w1 ⟨rfl, rfl⟩
    clear his
    go_wp2
    go_ret
    exact ⟨_, _, _, rfl, Sl.nil _ _ _, rfl⟩
/-- Where an item stands. -/
def WhereIs (L : List (List Int)) (x : Int) (j : Nat) (ok : Bool) : Prop := (ok = true ∧ ∃ l, L[j]? = some l ∧ x ∈ l) ∨ (ok = false ∧ j = 0 ∧ x ∉ L.flatten)
def RWhere (L : List (List Int)) (x : Int) (w : World) (e : Ending) (w' : World) : Prop := ∃ (j : Nat) (ok : Bool), e = .returned (.tuple #[.int .i64 j, .bool ok]) ∧ w' = w ∧ WhereIs L x j ok
theorem RWhere.mk {L : List (List Int)} {x : Int} {w : World} {j : Nat} {ok : Bool} (h : WhereIs L x j ok) : RWhere L x w (.returned (.tuple #[.int .i64 j, .bool ok])) w := ⟨j, ok, rfl, rfl, h⟩
theorem ret_bool {a b : Bool} (h : a = b) : Ending.returned (.bool a) = .returned (.bool b) := by rw [h]
theorem ret_i64 {a b : Int} (h : a = b) : Ending.returned (.int .i64 a) = .returned (.int .i64 b) := by rw [h]
set_option maxRecDepth 100000 in
theorem rwhere_any (h : RR w b r vs L) (x : Int) (hl : ∀ l ∈ L, l.length ≤ 5000) : Calls Try.prog 30 #[.pointer (some ⟨b, 0, none⟩), .int .i64 x] w (RWhere L x w) := by
  have c0 := cell_of_ob h.blk 0
  have hfew := h.few
  go_enter Try.func30, Try.ntmps30
  go_wp2_with fail
  go_loop [15] (fun si => ∃ j : Nat, j ≤ L.length ∧ si = .int .i64 j ∧ Hid (∀ (i : Nat) l, i < j → L[i]? = some l → x ∉ l)) (fun si => L.length - (intOf si).toNat)
  case atStart => exact ⟨0, by omega, rfl, Lib.hid (fun i l hi => by omega)⟩
  case round =>
    obtain ⟨j, hj, rfl, HB⟩ := hrel
    by_cases hlt : j < L.length
    · obtain ⟨l, A, N, C, hlj, hv, hs, hN, -, c1, -, -⟩ := h.at hlt
      have hN5 : N ≤ 5000 := by rw [hN]; exact hl l (List.mem_of_getElem? hlj)
      have HN := Lib.hid hN
      have HLJ := Lib.hid hlj
      clear hN hlj hv
      go_wp2_with fail
      go_loop [22] (fun si => ∃ t : Nat, t ≤ N ∧ si = .int .i64 t ∧ Hid (x ∉ l.take t)) (fun si => N - (intOf si).toNat)
      case atStart => exact ⟨0, by omega, rfl, Lib.hid (by simp)⟩
      case round =>
        obtain ⟨t, ht, rfl, HT⟩ := hrel
        by_cases hltt : t < N
        · obtain ⟨y, hy⟩ : ∃ y, l[t]? = some y := ⟨_, List.getElem?_eq_getElem (by have := HN.out; omega)⟩
          obtain ⟨g6, off6, n6, cap6, heq, hgl6, -, -, c6⟩ := SKI.item hs hy
          cases heq
          have HY := Lib.hid hy
          clear hy
          by_cases hxy : y = x
          · subst hxy
            go_wp2
            go_ret2
            exact RWhere.mk (.inl ⟨rfl, l, HLJ.out, List.mem_of_getElem? HY.out⟩)
          · have hb : (y == x) = false := by simp [hxy]
            have HXY := Lib.hid hxy
            clear hxy
            go_wp2
            go_round
            case rel =>
              refine ⟨t + 1, by omega, by go_num, Lib.hid ?_⟩
              rw [List.take_add_one, HY.out]
              simp only [Option.toList_some, List.mem_append, List.mem_singleton]
              rintro (h | h)
              · exact HT.out h
              · exact HXY.out h.symm
            case measure => simp [intOf]; omega
        · obtain rfl : t = N := by omega
          go_wp2
          go_round
          case rel =>
            refine ⟨j + 1, by omega, by go_num, Lib.hid fun i l' hi hl' => ?_⟩
            by_cases hij : i = j
            · subst hij
              rw [HLJ.out] at hl'; cases hl'
              have := HT.out
              rwa [HN.out, List.take_length] at this
            · exact HB.out i l' (by omega) hl'
          case measure => simp [intOf]; omega
    · obtain rfl : j = L.length := by omega
      go_wp2
      go_ret2
      refine RWhere.mk (j := 0) (.inr ⟨rfl, rfl, fun hx => ?_⟩)
      obtain ⟨j, l, hj, hl2⟩ := mem_flat.1 hx
      exact HB.out j l (List.getElem?_eq_some_iff.1 hj).1 hj hl2
set_option maxRecDepth 100000 in
theorem rtotal_any (h : RR w b r vs L) (hl : L.flatten.length ≤ 5000) : Calls Try.prog 55 #[.pointer (some ⟨b, 0, none⟩)] w fun e w' => e = .returned (.int .i64 L.flatten.length) ∧ w' = w := by
  have c0 := cell_of_ob h.blk 0
  have hfew := h.few
  have HL := Lib.hid hl
  clear hl
  go_enter Try.func55, Try.ntmps55
  go_wp2_with fail
  go_loop [3, 11] (fun sn si => ∃ j : Nat, j ≤ L.length ∧ si = .int .i64 j ∧ sn = .int .i64 (cntL L j)) (fun _ si => L.length - (intOf si).toNat)
  case atStart => exact ⟨0, by omega, rfl, rfl⟩
  case round =>
    obtain ⟨j, hj, rfl, rfl⟩ := hrel
    by_cases hlt : j < L.length
    · obtain ⟨l, A, N, C, hlj, hv, hs, hN, -, c1, -, -⟩ := h.at hlt
      have HC := Lib.hid (cntL_succ hlj)
      have hb : cntL L j + N ≤ 5000 := by have := cntL_le L (j + 1); rw [HC.out] at this; have := HL.out; omega
      obtain ⟨c, hc⟩ : ∃ c, cntL L j = c := ⟨_, rfl⟩
      have HCC := Lib.hid hc
      have HN := Lib.hid hN
      simp only [hc] at hb ⊢
      clear hN hc hlj hv
      go_wp2
      go_round
      case rel => exact ⟨j + 1, by omega, by go_num, by rw [HC.out, HCC.out, ← HN.out]; go_num⟩
      case measure => simp [intOf]; omega
    · obtain rfl : j = L.length := by omega
      obtain ⟨c, hc⟩ : ∃ c, cntL L L.length = c := ⟨_, rfl⟩
      have HCC := Lib.hid hc
      simp only [hc]
      clear hc
      go_wp2
      go_ret
      exact ⟨ret_i64 (congrArg Nat.cast ((HCC.out.symm.trans (cntL_all (Nat.le_refl _))).trans List.length_flatten)), rfl⟩
theorem rmay_any (h : RR w b r vs L) (hg : L.flatten.length ≤ 4096) (n x : Int) : Calls Try.prog 47 #[.pointer (some ⟨b, 0, none⟩), .int .i64 n, .int .i64 x] w fun e w' => e = .returned (.bool (may L n x)) ∧ w' = w := by
  have hll : ∀ l ∈ L, l.length ≤ 5000 := fun l hl => by
    obtain ⟨j, hj⟩ := List.mem_iff_getElem?.1 hl
    have h1 := cntL_succ hj
    have h2 := cntL_le L (j + 1)
    omega
  have hwh := rwhere_any h x hll
  have his := ris_any h n
  have hto := rtotal_any h (by omega)
  obtain ⟨t, ht⟩ : ∃ t, L.flatten.length = t := ⟨_, rfl⟩
  have hmay : may L n x = decide (0 ≤ n ∧ n < L.length ∧ (x ∈ L.flatten ∨ L.flatten.length < 4096)) := rfl
  rw [ht] at hto hg
  obtain ⟨q, hq⟩ : ∃ q, may L n x = q := ⟨_, rfl⟩
  rw [hq] at hmay ⊢
  have HM := Lib.hid hmay
  have HT := Lib.hid ht
  clear hmay hq ht
  go_enter Try.func47, Try.ntmps47
  go_wp2_with fail
  refine hwh.mono ?_
  rintro e w1 ⟨j, ok, rfl, rfl, hW⟩
  clear hwh
  have HW := Lib.hid hW
  clear hW
  go_wp2_with fail
  refine his.mono ?_
  rintro e w1 ⟨rfl, rfl⟩
  clear his
  by_cases hn : 0 ≤ n ∧ n < (L.length : Int)
  · rw [decide_eq_true hn]
    have HNN := Lib.hid hn
    clear hn
    cases ok with
    | true =>
      go_wp2
      go_ret
      refine ⟨ret_bool ?_, rfl⟩
      rw [HM.out]
      rcases HW.out with ⟨-, l, hj, hx⟩ | ⟨hf, _⟩
      · exact (decide_eq_true ⟨HNN.out.1, HNN.out.2, .inl (mem_flat.2 ⟨j, l, hj, hx⟩)⟩).symm
      · cases hf
    | false =>
      go_wp2_with fail
      refine hto.mono ?_
      rintro e w1 ⟨rfl, rfl⟩
      go_wp2
      go_ret
      refine ⟨ret_bool ?_, rfl⟩
      rw [HM.out]
      rcases HW.out with ⟨hf, _⟩ | ⟨-, -, hx⟩
      · cases hf
      · refine decide_eq_decide.2 ⟨fun h4 => ⟨HNN.out.1, HNN.out.2, .inr ?_⟩, fun h => h.2.2.elim (fun h => (hx h).elim) fun h4 => ?_⟩
        · have := HT.out; omega
        · have := HT.out; omega
  · rw [decide_eq_false hn]
    have HNN := Lib.hid hn
    clear hn
    go_wp2
    go_ret
    refine ⟨ret_bool ?_, rfl⟩
    rw [HM.out]
    exact (decide_eq_false (fun h => HNN.out ⟨h.1, h.2.1⟩)).symm
theorem rfirst_any (h : RR w b r vs L) (hl : L.flatten.length ≤ 5000) (n : Int) : Calls Try.prog 32 #[.pointer (some ⟨b, 0, none⟩), .int .i64 n] w fun e w' => ∃ x ok, e = .returned (.tuple #[x, .bool ok]) ∧ FirstIsI (rowAtI L n) x ok ∧ w' = w := by
  have hall := rall_any h n
  go_enter Try.func32, Try.ntmps32
  go_wp2_with fail
  refine hall.mono ?_
  rintro e w1 ⟨A, N, C, rfl, hs, rfl⟩
  clear hall
  have hlen := SKI.elen hs
  simp only [sliceLen] at hlen
  cases hr : rowAtI L n with
  | nil =>
    rw [hr] at hlen
    obtain rfl : N = 0 := hlen
    clear hs
    go_wp2
    go_ret2
    exact ⟨_, _, rfl, .inr ⟨rfl, hr, rfl⟩, rfl⟩
  | cons y t =>
    rw [hr] at hs hlen
    obtain ⟨g6, off6, n6, cap6, heq, hgl6, -, -, c6⟩ := SKI.item hs (j := 0) (x := y) rfl
    cases heq
    have hN0 : 0 < N := by rw [hlen]; simp
    have hN1 : (0 : Int) < N := by omega
    have c7 : w1.cell? ⟨g6, off6, none⟩ = some (.int .i64 y) := c6
    clear hlen hs c6
    go_wp2
    go_ret2
    exact ⟨_, _, rfl, .inl ⟨rfl, y, t, hr, rfl⟩, rfl⟩
end
end Go.Proofs.Ytfcpodlbombimaa
