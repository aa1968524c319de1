/- AnonLowest, walked. No conditions. -/
import Derived.Test.YtalinhpdibdlkaaLow
import Derived.Deep.DeepCutAuto
namespace Go.Proofs.Ytalinhpdibdlkaa
open Go.RowKit
set_option linter.unusedSimpArgs false
set_option linter.unusedVariables false
structure GoneOK (gl : List Bool) (F : List Int) (l : List (Int × A3)) : Prop where
  len : gl.length = 41
  fnd : F.Nodup
  mem : ∀ x, x ∈ F ↔ ∃ k : Nat, 1 ≤ k ∧ k ≤ 40 ∧ gl[k]? = some true ∧ x = (k : Int)
  lnd : (l.map (·.1)).Nodup
  llen : l.length ≤ 40
  get : ∀ k : Nat, 1 ≤ k → k ≤ 40 → alGet l (k : Int) = if gl[k]? = some true then none else some (1, (k : Int), -1)
theorem gone_start : GoneOK (List.replicate 41 false) [] (madeL 40) := by
  refine ⟨by simp, by simp, fun x => ?_, madeL_nodup, by rw [madeL_len]; omega, fun k h1 h2 => ?_⟩
  · constructor
    · intro h; simp at h
    · rintro ⟨k, h1, h2, h3, _⟩
      rw [List.getElem?_replicate] at h3
      split at h3 <;> simp at h3
  · rw [if_neg (by rw [List.getElem?_replicate]; split <;> simp), madeL_get k h1 h2]
theorem gone_step {gl : List Bool} {F F' : List Int} {l l' : List (Int × A3)} {k : Nat} {y : A3} {er : Int} (h : GoneOK gl F l) (h1 : 1 ≤ k) (h2 : k ≤ 40) (hc : ChOut (refRes (-1)) F l (k : Int) y er F' l') (g : Bool) (hg : gl[k]? = some g) :
    er = (if g then 7 else 0) ∧ GoneOK (gl.set k true) F' l' ∧ F'.length ≤ F.length + 1 := by
  obtain ⟨hlen, hf, hm, hl, hll, hget⟩ := h
  have hgk := hget k h1 h2
  rw [hg] at hgk
  unfold ChOut at hc
  rw [hgk] at hc
  cases g with
  | true =>
    simp only [if_true] at hc
    obtain ⟨_, rfl, rfl, rfl⟩ := hc
    have hs : gl.set k true = gl := by
      apply List.ext_getElem?
      intro i
      rw [List.getElem?_set]
      split
      · rename_i e; subst e; rw [if_pos (by omega), hg]
      · rfl
    rw [hs]
    exact ⟨rfl, ⟨hlen, hf, hm, hl, hll, hget⟩, by omega⟩
  | false =>
    have hr : refRes (-1) (1, (k : Int), -1) = (0, (0, (k : Int), -1)) := by unfold refRes; rw [if_neg (by simp)]; rfl
    simp only [Option.some.injEq, Bool.false_eq_true, if_false, hr, ne_eq, not_true_eq_false, if_true] at hc
    obtain ⟨_, rfl, hp, rfl⟩ := hc
    have hkF : (k : Int) ∉ F := fun hx => by
      obtain ⟨j, _, _, h3, h4⟩ := (hm _).1 hx
      have : j = k := by omega
      subst this
      rw [hg] at h3; cases h3
    have hset : ∀ j : Nat, (gl.set k true)[j]? = if j = k then some true else gl[j]? := fun j => by
      rw [List.getElem?_set]
      by_cases hj : j = k
      · subst hj; simp; omega
      · rw [if_neg (Ne.symm hj), if_neg hj]
    have hls : ((alSet l (k : Int) (0, (k : Int), -1)).map (·.1)).Nodup := alSet_nodup _ _ _ hl
    refine ⟨rfl, ⟨by simp [hlen], hp.nodup_iff.2 (List.nodup_append.2 ⟨hf, by simp, fun a ha b hb => by simp at hb; subst hb; exact fun e => hkF (e ▸ ha)⟩), fun x => ?_, hls.sublist ((alDel_sub _ _).map _), ?_, fun j j1 j2 => ?_⟩, by rw [hp.length_eq]; simp⟩
    · rw [hp.mem_iff]
      simp only [List.mem_append, List.mem_singleton]
      constructor
      · rintro (hx | rfl)
        · obtain ⟨j, h3, h4, h5, h6⟩ := (hm x).1 hx
          exact ⟨j, h3, h4, by rw [hset]; split; rfl; exact h5, h6⟩
        · exact ⟨k, h1, h2, by rw [hset, if_pos rfl], rfl⟩
      · rintro ⟨j, h3, h4, h5, rfl⟩
        rw [hset] at h5
        by_cases hj : j = k
        · subst hj; exact .inr rfl
        · rw [if_neg hj] at h5
          exact .inl ((hm _).2 ⟨j, h3, h4, h5, rfl⟩)
    · have e1 := (alDel_sub (alSet l (k : Int) (0, (k : Int), -1)) (k : Int)).length_le
      have e2 := alSet_len_in l (k : Int) (0, (k : Int), -1) _ hgk
      omega
    · rw [alGet_del _ _ _ hls, hset]
      by_cases hj : j = k
      · subst hj; simp
      · have hj2 : ¬ ((j : Int) = (k : Int)) := by omega
        rw [if_neg hj2, if_neg hj, alGet_set, if_neg hj2]
        exact hget j j1 j2
/-- What is left to be made again from k on. -/
structure RemOK (gl : List Bool) (F : List Int) (k : Nat) : Prop where
  fnd : F.Nodup
  mem : ∀ x, x ∈ F ↔ ∃ j : Nat, k ≤ j ∧ j ≤ 40 ∧ gl[j]? = some true ∧ x = (j : Int)
theorem RemOK.skip {gl : List Bool} {F : List Int} {k : Nat} (h : RemOK gl F k) (hg : gl[k]? = some false) : RemOK gl F (k + 1) := by
  refine ⟨h.fnd, fun x => (h.mem x).trans ⟨?_, ?_⟩⟩
  · rintro ⟨j, h1, h2, h3, h4⟩
    refine ⟨j, ?_, h2, h3, h4⟩
    rcases Nat.lt_or_ge k j with h | h
    · exact h
    · have : j = k := by omega
      subst this; rw [hg] at h3; cases h3
  · rintro ⟨j, h1, h2, h3, h4⟩
    exact ⟨j, by omega, h2, h3, h4⟩
theorem RemOK.take {gl : List Bool} {F F' : List Int} {k : Nat} {last id last' : Int} (h : RemOK gl F k) (hk : k ≤ 40) (hg : gl[k]? = some true) (hh : HeapOK F) (hM : Made F last id last' F') : id = (k : Int) ∧ last' = last ∧ RemOK gl F' (k + 1) := by
  have hkF : (k : Int) ∈ F := (h.mem _).2 ⟨k, Nat.le_refl _, hk, hg, rfl⟩
  rcases hM with ⟨rfl, _⟩ | ⟨hne, rfl, rfl, hp⟩
  · simp at hkF
  · have h0 : 0 < F.length := List.length_pos_iff.2 hne
    have hmem : at' F 0 ∈ F := by rw [at_get F 0 h0]; exact List.getElem_mem _
    obtain ⟨j, j1, j2, j3, j4⟩ := (h.mem _).1 hmem
    have hle := heap_least F hh _ hkF
    have hid : at' F 0 = (k : Int) := by omega
    refine ⟨hid, rfl, ?_⟩
    rw [hid] at hp
    have hnd : ((k : Int) :: F').Nodup := hp.nodup_iff.2 h.fnd
    obtain ⟨hnk, hnf⟩ := List.nodup_cons.1 hnd
    refine ⟨hnf, fun x => ⟨fun hx => ?_, ?_⟩⟩
    · obtain ⟨i, i1, i2, i3, rfl⟩ := (h.mem x).1 (hp.mem_iff.1 (List.mem_cons_of_mem _ hx))
      refine ⟨i, ?_, i2, i3, rfl⟩
      rcases Nat.lt_or_ge k i with h | h
      · exact h
      · have : i = k := by omega
        subst this; exact absurd hx hnk
    · rintro ⟨i, i1, i2, i3, rfl⟩
      have := hp.mem_iff.2 ((h.mem _).2 ⟨i, by omega, i2, i3, rfl⟩)
      rcases List.mem_cons.1 this with h | h
      · omega
      · exact h
theorem RemOK.done {gl : List Bool} {F : List Int} (h : RemOK gl F 41) : F = [] := by
  cases F with
  | nil => rfl
  | cons x r =>
    obtain ⟨j, j1, j2, _⟩ := (h.mem x).1 (List.mem_cons_self ..)
    omega
theorem GoneOK.rem {gl : List Bool} {F : List Int} {l : List (Int × A3)} (h : GoneOK gl F l) : RemOK gl F 1 := ⟨h.fnd, h.mem⟩
theorem PoolX.rebase {Pr S : Nat → Prop} {W1 w w1 : World} {b m : Nat} {most last : Int} {free : List Int} {l : List (Int × A3)} (h : PoolX Pr W1 w b m most last free l) (hf : Fr S w w1) (hS : ∀ k, S k → Pr k) : PoolX Pr w1 w1 b m most last free l := by
  obtain ⟨fv, h1, h2, h3, h4⟩ := h
  exact ⟨fv, h1.fr hf (fun k hk hs => h2 k hk (hS k hs)), h2, Fr.refl _ _, fun k hp => by have := h4 k hp; have := h3.size; have := hf.size; omega⟩
def boolsA (gl : List Bool) : Array Value := (gl.map Value.bool).toArray
theorem boolsA_get (gl : List Bool) (k : Nat) (g : Bool) (h : gl[k]? = some g) : (boolsA gl)[k]? = some (.bool g) := by simp [boolsA, h]
theorem boolsA_set (gl : List Bool) (k : Nat) : (boolsA gl).setIfInBounds k (.bool true) = boolsA (gl.set k true) := by simp [boolsA, List.map_set]
abbrev uint1 (n : Int) : List Value := [.int .u64 n]
theorem leaf_uint (cs : List Value) (h : leafAll [.int .u64] cs) : ∃ x : Int, uint1 x = cs ∧ 0 ≤ x := by
  obtain ⟨hl, h⟩ := h
  obtain ⟨a, ha, m, rfl, hw⟩ := h 0 _ rfl
  have hmin : IntKind.u64.min = 0 := by decide
  have h0 : 0 ≤ m := by simp [Lit.wf] at hw; rw [hmin] at hw; exact hw.1
  match cs, hl, ha with
  | [_], _, rfl => exact ⟨m, rfl, h0⟩
theorem uints_get : ∀ (xs : List Int) (j : Nat) (x : Int), xs[j]? = some x → (xs.flatMap uint1)[j]? = some (.int .u64 x)
  | [], j, x, h => by simp at h
  | y :: r, 0, x, h => by simp at h; subst h; rfl
  | y :: r, j + 1, x, h => by simp at h; simpa using uints_get r j x h
set_option maxRecDepth 100000 in
set_option maxHeartbeats 4000000 in
theorem lowest_walk (w : World) (A : Option Addr) (N C : Nat) (xs : List Int) (hxs : Rd w 1 (.slice A N C) (xs.flatMap uint1)) (hN : N = xs.length) (hpos : ∀ x ∈ xs, 0 ≤ x) :
    Calls Try.prog 3 #[.slice A N C] w fun e w' => e = .returned (.bool true) ∧ Fr (fun _ => False) w w' := by
  have HN := Lib.hid hN
  have HPOS := Lib.hid hpos
  clear hN hpos
  go_enter Try.func3, Try.ntmps3
  go_wp2_with fail
  refine (new_any 4096 (by omega) (by omega) w).mono ?_
  rintro e w1 ⟨b, m, rfl, hX, hf1, hb, hm⟩
  by_cases h2 : 60 < N
  · go_wp2_with fail
    refine (lives_any _).mono ?_
    rintro e w7 ⟨rfl, hf7⟩
    go_wp2
    go_ret
    exact ⟨rfl, hf1.also hf7⟩
  have hN2 : N ≤ 60 := by omega
  go_wp2_with fail
  go_loopw [4] (fun v wr => ∃ i : Nat, i ≤ 40 ∧ v = .int .i64 ((i : Int) + 1) ∧ PoolX (fun k => k < w.heap.size) w wr b m 4096 i [] (madeL i)) (fun v _ => 41 - (intOf v).toNat)
  case atStart => exact ⟨0, by omega, rfl, hX⟩
  case round =>
    obtain ⟨i, hi, rfl, hx⟩ := hrel
    by_cases hlt : i < 40
    · have HL := Lib.hid (madeL_succ i)
      have hl0 := madeL_len i
      go_wp2_with fail
      refine (make_any hx (by rw [hl0]; omega) (by simp) (by omega) ((i : Int) + 1)).mono ?_
      rintro e w2 ⟨id, rfl, last', free', hM, hx2⟩
      obtain ⟨rfl, rfl, rfl⟩ := hM.fresh
      rw [HL.out] at hx2
      clear hM hl0
      go_wp2
      go_roundw
      case rel => exact ⟨i + 1, by omega, by simp, by simpa using hx2⟩
      case measure => simp [intOf]; omega
    · obtain rfl : i = 40 := by omega
      go_wp2_with fail
      obtain ⟨W, hW⟩ : ∃ W, W = wr.alloc (.cells (boolsA (List.replicate 41 false)) 29) := ⟨_, rfl⟩
      obtain ⟨bg, hbg⟩ : ∃ bg, bg = wr.heap.size := ⟨_, rfl⟩
      have og : ob W bg = some (.cells (boolsA (List.replicate 41 false)) 29 (0, 0)) := by rw [hW, hbg]; exact ob_new _ _
      have hfW : Fr (fun _ => False) wr W := by rw [hW]; exact (Fr.refl _ _).alloc _
      have hWs : W.heap.size = bg + 1 := by rw [hW, hbg]; simp
      have hXW : PoolX (fun k => k < w.heap.size ∨ k = bg) W W b m 4096 40 [] (madeL 40) := hx.enter hfW (fun k => k = bg) (fun k hk => by omega)
      have hfw0 : Fr (fun k => ¬ k < w.heap.size) w W := hx.fr.step hfW (fun _ h => h.elim)
      change Code.wp _ _ _ _ (wr.alloc (.cells (boolsA (List.replicate 41 false)) 29))
      rw [← hW, ← hbg]
      have HBG := Lib.hid (show w.heap.size ≤ bg by rw [hbg]; exact hx.fr.size)
      clear hW hbg hfW hx hX
      go_loopw [50] (fun v wr => ∃ (j : Nat) (gl : List Bool) (F : List Int) (l : List (Int × A3)), j ≤ N ∧ v = .int .i64 j ∧ PoolX (fun k => k < w.heap.size ∨ k = bg) wr wr b m 4096 40 F l ∧ ob wr bg = some (.cells (boolsA gl) 29 (0, 0)) ∧ GoneOK gl F l ∧ F.length ≤ j ∧ Fr (fun k => ¬ k < w.heap.size) w wr) (fun v _ => N - (intOf v).toNat)
      case atStart => exact ⟨0, _, _, _, by omega, rfl, hXW, og, gone_start, by simp, hfw0⟩
      case round =>
        obtain ⟨j, gl, F, l, hj, rfl, hx, ho, hG, hFj, hfw⟩ := hrel
        by_cases hjN : j < N
        · obtain ⟨x, hxj⟩ : ∃ x, xs[j]? = some x := ⟨_, List.getElem?_eq_getElem (by have := HN.out; omega)⟩
          have hall : Fr (fun _ => False) w wr := hfw.mono (fun k hk h => h hk)
          have hgx := uints_get xs j x hxj
          obtain ⟨g, off, n', cap', heq, hgl, hcs, _⟩ := (hxs.of hall (fun _ h => h.elim)).form (by intro e; rw [e] at hgx; cases hgx)
          cases heq
          have hc := hcs _ _ hgx
          have hx0 := HPOS.out x (List.mem_of_getElem? hxj)
          obtain ⟨κ, hκ, hκ40⟩ : ∃ κ : Nat, x % 40 = (κ : Int) ∧ κ < 40 := ⟨(x % 40).toNat, by omega, by omega⟩
          have hκt : x.tmod 40 = (κ : Int) := by rw [Int.tmod_eq_emod_of_nonneg hx0]; exact hκ
          obtain ⟨k, hk⟩ : ∃ k : Nat, k = κ + 1 := ⟨_, rfl⟩
          have hk1 : 1 + (κ : Int) = (k : Int) := by omega
          have hk2 : 1 ≤ k := by omega
          have hk3 : k ≤ 40 := by omega
          have hk4 : k < 41 := by omega
          obtain ⟨gb, hgb⟩ : ∃ gb, gl[k]? = some gb := ⟨_, List.getElem?_eq_getElem (by rw [hG.len]; omega)⟩
          have HGB := Lib.hid hgb
          clear hk hxj hgx hcs hgb
          have hFl : F.length ≤ 100000 := by omega
          have hxr : ∀ a, alGet l (k : Int) = some a → 0 ≤ a.1 ∧ a.1 ≤ 1000000 := fun a ha => by
            have := hG.get k hk2 hk3
            rw [ha] at this
            split at this
            · cases this
            · cases this; exact ⟨by simp, by simp⟩
          have HXR := Lib.hid hxr
          clear hxr
          clear hXW og hfw0
          go_wp2_with fail
          refine (ref_any (id' := k) hx hFl HXR.out (-1)).mono ?_
          rintro e w2 ⟨⟨y1, y2, y3⟩, er, rfl, F', l', hC, hX2⟩
          obtain ⟨her, hG2, hF2⟩ := gone_step hG hk2 hk3 hC gb HGB.out
          have ho2 := hX2.fr.keep (fun h => h (.inr rfl)) ho
          have hf23 : Fr (fun _ => False) w2 (w2.alloc (.cells #[.int .i64 y1, .int .i64 y2, .int .i64 y3] 32)) := (Fr.refl _ _).alloc _
          have cg : w2.cell? ⟨bg, k, none⟩ = some (.bool gb) := by rw [cell_of_ob ho2]; exact boolsA_get gl k gb HGB.out
          have fg := frozen_of_ob ho2 k
          have sg := ob_lt ho2
          have HER := Lib.hid her
          simp only [a3]
          clear hC hc her
          cases gb
          case false =>
            obtain rfl : er = 0 := HER.out
            go_wp2_with fail
            go_roundw
            case rel =>
              have hf24 : Fr (fun q => q = bg) w2 ((w2.setCell ⟨bg, k, none⟩ (.bool true)).alloc (.cells #[.int .i64 y1, .int .i64 y2, .int .i64 y3] 32)) := ((Fr.refl (fun q => q = bg) w2).setCell ⟨bg, k, none⟩ _ (.inl rfl)).alloc _
              have ho4 : ob ((w2.setCell ⟨bg, k, none⟩ (.bool true)).alloc (.cells #[.int .i64 y1, .int .i64 y2, .int .i64 y3] 32)) bg = some (.cells (boolsA (gl.set k true)) 29 (0, 0)) := by
                rw [ob_alloc _ _ _ (by simpa using sg), ob_setCell_same ho2 _, ← boolsA_set]
              have hfw4 := (hfw.step hX2.fr (S := fun q => ¬ q < w.heap.size) (fun q hq => .inl (fun hp => hq (.inl hp)))).step hf24 (fun q hq => .inl (by rw [hq]; have := HBG.out; omega))
              exact ⟨j + 1, gl.set k true, F', l', by omega, by go_num, hX2.rebase hf24 (fun q hq => .inr hq), ho4, hG2, by omega, hfw4⟩
            case measure => simp [intOf]; omega
          case true =>
            obtain rfl : er = 7 := HER.out
            go_wp2_with fail
            go_roundw
            case rel =>
              have hf24 : Fr (fun q => q = bg) w2 ((w2.setCell ⟨bg, k, none⟩ (.bool true)).alloc (.cells #[.int .i64 y1, .int .i64 y2, .int .i64 y3] 32)) := ((Fr.refl (fun q => q = bg) w2).setCell ⟨bg, k, none⟩ _ (.inl rfl)).alloc _
              have ho4 : ob ((w2.setCell ⟨bg, k, none⟩ (.bool true)).alloc (.cells #[.int .i64 y1, .int .i64 y2, .int .i64 y3] 32)) bg = some (.cells (boolsA (gl.set k true)) 29 (0, 0)) := by
                rw [ob_alloc _ _ _ (by simpa using sg), ob_setCell_same ho2 _, ← boolsA_set]
              have hfw4 := (hfw.step hX2.fr (S := fun q => ¬ q < w.heap.size) (fun q hq => .inl (fun hp => hq (.inl hp)))).step hf24 (fun q hq => .inl (by rw [hq]; have := HBG.out; omega))
              exact ⟨j + 1, gl.set k true, F', l', by omega, by go_num, hX2.rebase hf24 (fun q hq => .inr hq), ho4, hG2, by omega, hfw4⟩
            case measure => simp [intOf]; omega
        · obtain ⟨W3, hW3⟩ : ∃ W3, W3 = wr := ⟨_, rfl⟩
          rw [← hW3] at hx ho hfw
          rw [← hW3]
          have hlg := hG.len
          have HLG := Lib.hid hlg
          have hl40 := hG.llen
          clear hW3 hlg hXW og hfw0
          go_wp2_with fail
          go_loopw [13] (fun v wr => ∃ (k : Nat) (F : List Int) (l : List (Int × A3)), 1 ≤ k ∧ k ≤ 41 ∧ v = .int .i64 k ∧ PoolX (fun k => k < w.heap.size ∨ k = bg) W3 wr b m 4096 40 F l ∧ RemOK gl F k ∧ l.length ≤ 40 + k ∧ F.length ≤ 60) (fun v _ => 41 - (intOf v).toNat)
          case atStart => exact ⟨1, F, l, by omega, by omega, rfl, hx, hG.rem, by omega, by omega⟩
          case round =>
            obtain ⟨k, F, l, hk1, hk2, rfl, hx, hR, hll, hFl⟩ := hrel
            by_cases hk : k ≤ 40
            · obtain ⟨gb, hgb⟩ : ∃ gb, gl[k]? = some gb := ⟨_, List.getElem?_eq_getElem (by have := HLG.out; omega)⟩
              have ho2 := hx.fr.keep (fun h => h (.inr rfl)) ho
              have cg : wr.cell? ⟨bg, k, none⟩ = some (.bool gb) := by rw [cell_of_ob ho2]; exact boolsA_get gl k gb hgb
              have sg := ob_lt ho2
              have HGB := Lib.hid hgb
              have hk4 : k < 41 := by omega
              clear hgb
              cases gb
              case false =>
                go_wp2_with fail
                go_roundw
                case rel => exact ⟨k + 1, F, l, by omega, by omega, by go_num, hx, hR.skip HGB.out, by omega, hFl⟩
                case measure => simp [intOf]; omega
              case true =>
                obtain ⟨fv, hT, hrest⟩ := _root_.id hx
                have hheap := hT.heap
                go_wp2_with fail
                refine (make_any hx (by omega) (by omega) (by omega) 0).mono ?_
                rintro e w4 ⟨id, rfl, last', free', hM, hx4⟩
                obtain ⟨rfl, rfl, hR2⟩ := hR.take hk HGB.out hheap hM
                have hF2 : free'.length ≤ 60 := by
                  rcases hM with ⟨_, _, _, h⟩ | ⟨_, _, _, hp⟩
                  · rw [h]; simp
                  · have := hp.length_eq; simp at this; omega
                have hal := alSet_le l (k : Int) ((1, 0, -1) : A3)
                clear hM hT hrest
                go_wp2
                go_roundw
                case rel => (repeat apply Exists.intro); exact ⟨⟨k + 1, free', _, by omega, by omega, by go_num, hx4, hR2, by omega, hF2⟩, rfl⟩
                case measure => simp [intOf]; omega
            · obtain rfl : k = 41 := by omega
              obtain rfl := hR.done
              go_wp2_with fail
              refine (make_any hx (by omega) (by simp) (by omega) 0).mono ?_
              rintro e w4 ⟨id, rfl, last', free', hM, hx4⟩
              obtain ⟨rfl, rfl, rfl⟩ := hM.fresh
              go_wp2_with fail
              refine (lives_any _).mono ?_
              rintro e w7 ⟨rfl, hf7⟩
              go_wp2
              go_ret
              exact ⟨rfl, ((hfw.step hx4.fr (S := fun q => ¬ q < w.heap.size) (fun q hq => .inl (fun hp => hq (.inl hp)))).mono (fun k hk h => h hk)).also hf7⟩
end Go.Proofs.Ytalinhpdibdlkaa
