/- TlbLast, walked. No conditions. -/
import Derived.Test.YtehgfhcpjeepkaaLast
import Derived.Test.YtehgfhcpjeepkaaAsids
import Derived.Deep.DeepCutAuto
import Derived.Deep.CutBlock
namespace Go.Proofs.Ytehgfhcpjeepkaa
open Go.RowKit
set_option linter.unusedSimpArgs false
set_option linter.unusedVariables false
def nePTE (a b c d : Int) : Sem Value := binOp .neq 29 (.agg #[.int .i64 a, .int .i64 b]) (.agg #[.int .i64 c, .int .i64 d])
@[go_sem high] theorem to_nePTE (a b c d : Int) : binOp .neq 29 (.agg #[.int .i64 a, .int .i64 b]) (.agg #[.int .i64 c, .int .i64 d]) = nePTE a b c d := rfl
theorem eqin_pte (a b c d : Int) (w : World) : (Op.equalIn 10000 29 (.agg #[.int .i64 a, .int .i64 b]) (.agg #[.int .i64 c, .int .i64 d])).run Try.prog w = .ok (k2eq a b c d) w := by
  unfold k2eq
  have u3 := Try.underlying3
  have a3 := Try.isAgg3
  have z3 := Try.sizeOf3
  have hS : Try.prog.underlying 29 = some (.struct (Try.prog.fieldsOf 29)) := by kernel_rfl
  rw [show (10000 : Nat) = 9999 + 1 from rfl, run_equalIn_agg w 9999 29 _ _ hS (by kernel_rfl)]
  simp only [Program.fieldsOf, Try.underlying29]
  go_simp
  by_cases h1 : a = c <;> by_cases h2 : b = d <;> simp [h1, h2]
@[go_sem] theorem run_nePTE (a b c d : Int) (w : World) : (nePTE a b c d).run Try.prog w = .ok (.bool (!k2eq a b c d)) w := by
  change Sem.run Try.prog (Op.equalIn 10000 29 _ _ >>= _) w = _
  rw [Sem.run_bind, eqin_pte]
  rfl
theorem flat_act : ∀ (l : List ActV) (j : Nat) (a : ActV), l[j]? = some a → ∀ i u, (actS a)[i]? = some u → (l.flatMap actS)[j * 5 + i]? = some u
  | [], j, a, h, _, _, _ => by simp at h
  | x :: l, 0, a, h, i, u, hu => by
    simp at h; subst h
    have hi : i < (actS x).length := (List.getElem?_eq_some_iff.1 hu).1
    simp only [List.flatMap_cons, Nat.zero_mul, Nat.zero_add]
    rw [List.getElem?_append_left hi]; exact hu
  | x :: l, j + 1, a, h, i, u, hu => by
    simp at h
    have ih := flat_act l j a h i u hu
    simp only [List.flatMap_cons]
    rw [List.getElem?_append_right (by simp [actS]; omega)]
    rw [show (j + 1) * 5 + i - (actS x).length = j * 5 + i by simp [actS]; omega]
    exact ih
/-- The cells of one act of a row. -/
theorem Rd.act {w : World} {v : Value} {xs : List ActV} (h : Rd w 5 v (xs.flatMap actS)) {j : Nat} {x : ActV} (hx : xs[j]? = some x) :
    ∃ g off n cap, v = .slice (some ⟨g, off, none⟩) n cap ∧ g < w.heap.size ∧ w.cell? ⟨g, off + j * 5, none⟩ = some (.int .i64 x.kind) ∧ w.cell? ⟨g, off + j * 5 + 1, none⟩ = some (.int .i64 x.k.1) ∧ w.cell? ⟨g, off + j * 5 + 2, none⟩ = some (.int .i64 x.k.2) ∧
      w.cell? ⟨g, off + j * 5 + 3, none⟩ = some (.int .i64 x.e.1) ∧ w.cell? ⟨g, off + j * 5 + 4, none⟩ = some (.int .i64 x.e.2) := by
  have hg := fun i u hu => flat_act xs j x hx i u hu
  obtain ⟨g, off, n', cap', heq, hgl, hcs, _⟩ := h.form (by intro e; have := hg 0 _ rfl; rw [e] at this; cases this)
  exact ⟨g, off, n', cap', heq, hgl, hcs _ _ (hg 0 _ rfl), by rw [Nat.add_assoc]; exact hcs _ _ (hg 1 _ rfl), by rw [Nat.add_assoc]; exact hcs _ _ (hg 2 _ rfl), by rw [Nat.add_assoc]; exact hcs _ _ (hg 3 _ rfl), by rw [Nat.add_assoc]; exact hcs _ _ (hg 4 _ rfl)⟩
theorem lstep_bool (k : K2) (j : Int) (b : ActV) (last : Int) : lstep k j b last =
    if (decide (0 ≤ if (b.kind == 0 && k2eq b.k.1 b.k.2 k.1 k.2) then j else last) && (b.kind == 1 && k2eq b.k.1 b.k.2 k.1 k.2 || b.kind == 2 && b.k.1 == k.1 || b.kind == 3)) then -1
    else if (b.kind == 0 && k2eq b.k.1 b.k.2 k.1 k.2) then j else last := by
  simp only [lstep, Bool.and_eq_true, Bool.or_eq_true, decide_eq_true_eq, beq_iff_eq, or_assoc]
theorem alGet_at {κ α : Type} [DecidableEq κ] : ∀ (l : List (κ × α)) (j : Nat) (y : κ × α), (l.map (·.1)).Nodup → l[j]? = some y → alGet l y.1 = some y.2
  | [], j, y, _, h => by simp at h
  | (x, u) :: l, 0, y, _, h => by simp at h; subst h; simp [alGet]
  | (x, u) :: l, j + 1, y, hn, h => by
    simp only [List.map_cons, List.nodup_cons] at hn
    simp at h
    have hx : x ≠ y.1 := fun e => hn.1 (by rw [e]; exact List.mem_map_of_mem (List.mem_of_getElem? h))
    simp only [alGet, hx, if_false]
    exact alGet_at l j y hn.2 h
set_option maxRecDepth 100000 in
set_option maxHeartbeats 4000000 in
theorem last_walk (w : World) (a0 : Int) (ha0 : 0 ≤ a0) (A : Option Addr) (N C : Nat) (hNC : N ≤ C) (xs : List ActV) (hxs : Rd w 5 (.slice A N C) (xs.flatMap actS)) (hN : N = xs.length) :
    Calls Try.prog 6 #[.int .u64 a0, .slice A N C] w fun e w' => e = .returned (.bool true) ∧ Fr (fun _ => False) w w' := by
  have HN := Lib.hid hN
  clear hN
  go_enter Try.func6, Try.ntmps6
  go_wp2_with fail
  obtain ⟨T, hT0, hT20⟩ : ∃ T : Nat, a0 % 20 = T ∧ T < 20 := ⟨(a0 % 20).toNat, by omega, by omega⟩
  simp only [hT0]
  clear hT0 ha0
  refine (new_any T (by omega) (by omega) w).mono ?_
  rintro e w1 ⟨b, m, rfl, hT, hf1, hb, hm⟩
  have hX := TabX.new hT
  clear hT
  by_cases h2 : 200 < N
  · go_wp2_with fail
    refine (lives_any _).mono ?_
    rintro e w7 ⟨rfl, hf7⟩
    go_wp2
    go_ret
    exact ⟨rfl, hf1.step hf7 (fun _ h => h.elim)⟩
  have hN2 : N ≤ 200 := by omega
  go_wp2_with fail
  go_loopw [35] (fun i wr => ∃ j : Nat, j ≤ N ∧ i = .int .i64 j ∧ TabX w1 wr b T m (tabAt T xs j) ∧ ((tabAt T xs j).length : Int) ≤ T) (fun i _ => N - (intOf i).toNat)
  case atStart => exact ⟨0, by omega, rfl, by simpa [tabAt] using hX, by simp [tabAt]⟩
  case round =>
    obtain ⟨i, hi, rfl, hx, hlen⟩ := hrel
    by_cases hlt : i < N
    · obtain ⟨a, ha⟩ : ∃ a, xs[i]? = some a := ⟨_, List.getElem?_eq_getElem (by have := HN.out; omega)⟩
      have hall : Fr (fun _ => False) w wr := hf1.step hx.fr (S := fun _ => False) (fun k hk => .inr (by rcases hk with rfl | rfl <;> omega))
      obtain ⟨g, off, n', cap', heq, hgl, c0, c1, c2, c3, c4⟩ := (hxs.of hall (fun _ h => h.elim)).act ha
      cases heq
      have HL := Lib.hid (tabAt_succ T xs i a ha)
      have hlen2 : ((tabAt T xs (i + 1)).length : Int) ≤ T := by rw [HL.out]; exact tstep_len T (by omega) _ a hlen
      have HA := Lib.hid ha
      clear ha
      go_upto_block 2 with fail
      go_cut [41] (fun _ wc => TabX w1 wc b T m (tabAt T xs (i + 1)))
      case first =>
        have hl5 : (tabAt T xs i).length ≤ 19 := by omega
        by_cases k0 : a.kind = 0
        · go_wp2_with fail
          refine (putX (hx.alloc _) a.k a.e ?_).mono ?_
          · have := tput_len T _ a.k a.e hlen; omega
          rintro e w2 ⟨rfl, hx2⟩
          go_wp2
          go_meet
          rw [HL.out, tstep, if_pos k0]; exact hx2
        by_cases k1 : a.kind = 1
        · go_wp2_with fail
          refine (flushX (hx.alloc _) a.k).mono ?_
          rintro e w2 ⟨rfl, hx2⟩
          go_wp2
          go_meet
          rw [HL.out, tstep, if_neg k0, if_pos k1]; exact hx2
        by_cases k2 : a.kind = 2
        · go_wp2_with fail
          refine (flushAsidX (hx.alloc _) a.k.1).mono ?_
          rintro e w2 ⟨rfl, hx2⟩
          go_wp2
          go_meet
          rw [HL.out, tstep, if_neg k0, if_neg k1, if_pos k2]; exact hx2
        by_cases k3 : a.kind = 3
        · go_wp2_with fail
          refine (flushAllX (hx.alloc _)).mono ?_
          rintro e w2 ⟨rfl, hx2⟩
          go_wp2
          go_meet
          rw [HL.out, tstep, if_neg k0, if_neg k1, if_neg k2, if_pos k3]; exact hx2
        · go_wp2_with fail
          go_meet
          rw [HL.out, tstep, if_neg k0, if_neg k1, if_neg k2, if_neg k3]; exact hx.alloc _
      case rest =>
        have hcut' : ∃ l, l = tabAt T xs (i + 1) := ⟨_, rfl⟩
        obtain ⟨l, hl⟩ := hcut'
        rw [← hl] at hcut hlen2
        have hal := kept_last T xs (i + 1) (by have := HN.out; omega)
        rw [← hl] at hal
        have HAL := Lib.hid hal
        have HLL := Lib.hid hl
        clear hl hal HL HA c0 c1 c2 c3 c4
        go_wp2_with fail
        refine (lenX hcut).mono ?_
        rintro e w2 ⟨rfl, rfl⟩
        go_wp2_with fail
        refine (keysX hcut).mono ?_
        rintro e w3 ⟨v', rfl, hsl, hx3, hf3, hown⟩
        have hL := hsl.len
        rw [len_flat, List.length_map] at hL
        obtain ⟨A', L, C', rfl⟩ : ∃ A L C, v' = .slice A L C := by
          rcases hsl with ⟨rfl, _⟩ | ⟨g, off, n, cap, row, rfl, _⟩ <;> exact ⟨_, _, _, rfl⟩
        simp only [sliceLen] at hL
        have hL1 : L = l.length := by omega
        have hL2 : L ≤ 19 := by omega
        have HL1 := Lib.hid hL1
        clear hL hL1
        go_wp2_with fail
        go_loopw [74] (fun q wr => ∃ j : Nat, j ≤ L ∧ q = .int .i64 j ∧ Fr (fun _ => False) w3 wr) (fun q _ => L - (intOf q).toNat)
        case atStart => exact ⟨0, by omega, rfl, Fr.refl _ _⟩
        case round =>
          obtain ⟨j, hj, rfl, hfj⟩ := hrel
          by_cases hjL : j < L
          · obtain ⟨y, hy⟩ : ∃ y, l[j]? = some y := ⟨_, List.getElem?_eq_getElem (by have := HL1.out; omega)⟩
            obtain ⟨hg0, hg1⟩ := flat_get (l.map (·.1)) j y.1 (by simp [hy])
            obtain ⟨g2, off2, n2, cap2, heq, hgl2, hcs, _, _⟩ := (hsl.fr hfj (fun _ _ h => h)).form (by intro e; rw [e] at hg0; cases hg0)
            cases heq
            have hc0 := hcs _ _ hg0
            have hc1 := hcs _ _ hg1
            rw [← Nat.add_assoc] at hc1
            have hget := alGet_at l j y hx3.nd hy
            obtain ⟨J, hJ, hJ2, aJ, haJ, heJ⟩ := HAL.out y (List.mem_of_getElem? hy)
            clear hy hg0 hg1 hcs
            go_wp2_with fail
            refine (findX (hx3.keep (hfj.alloc _)) y.1).mono ?_
            rw [hget]
            rintro e w4 ⟨rfl, hx4, hf4⟩
            have h34 : Fr (fun _ => False) w3 w4 := (hfj.alloc _).step hf4 (fun _ h => h.elim)
            have hsz4 := hf4.size
            simp only [World.size_alloc] at hsz4
            have hk0 : w4.cell? ⟨wr.heap.size, 0, none⟩ = some (.int .i64 y.1.1) := by rw [hf4.cell (by simp) (by simp)]; exact cell_of_ob (ob_new wr _) 0
            have hk1 : w4.cell? ⟨wr.heap.size, 1, none⟩ = some (.int .i64 y.1.2) := by rw [hf4.cell (by simp) (by simp)]; exact cell_of_ob (ob_new wr _) 1
            simp only [Option.getD_some, Option.isSome_some, k2]
            clear hget hc0 hc1
            go_wp2_with fail
            have hJ2 := Lib.hid hJ2
            have haJ := Lib.hid haJ
            have heJ := Lib.hid heJ
            obtain ⟨w5, hw5⟩ : ∃ w5, w5 = w4.alloc (.cells #[.int .i64 y.2.1, .int .i64 y.2.2] 29) := ⟨_, rfl⟩
            rw [← hw5]
            have oe : ob w5 w4.heap.size = some (.cells #[.int .i64 y.2.1, .int .i64 y.2.2] 29 (0, 0)) := by rw [hw5]; exact ob_new _ _
            have ok : ob w5 wr.heap.size = some (.cells #[.int .i64 y.1.1, .int .i64 y.1.2] 27 (0, 0)) := by
              rw [hw5, ob_alloc _ _ _ (by omega)]
              exact hf4.keep (fun h => h) (ob_new wr _)
            have h35 : Fr (fun _ => False) w3 w5 := by rw [hw5]; exact h34.alloc _
            have hall5 : Fr (fun _ => False) w w5 := (hf1.step hx3.fr (S := fun _ => False) (fun k hk => .inr (by rcases hk with rfl | rfl <;> omega))).step h35 (fun _ h => h.elim)
            obtain ⟨bk, hbk⟩ : ∃ bk, bk = wr.heap.size := ⟨_, rfl⟩
            obtain ⟨be, hbe⟩ : ∃ be, be = w4.heap.size := ⟨_, rfl⟩
            rw [← hbe, ← hbk]
            rw [← hbe] at oe
            rw [← hbk] at ok
            clear hk0 hk1 hw5 h34 hx4 hf4 hbe hbk
            go_loopw [13, 89] (fun last v wq => ∃ q : Nat, q ≤ i + 1 ∧ v = .int .i64 q ∧ ∃ La : Int, last = .int .i64 La ∧ La = lastAt xs y.1 q ∧ Fr (fun _ => False) w5 wq) (fun _ v _ => (i + 1) - (intOf v).toNat)
            case atStart => exact ⟨0, by omega, rfl, -1, rfl, rfl, Fr.refl _ _⟩
            case round =>
              obtain ⟨q, hq, rfl, La, rfl, hLa, hfq⟩ := hrel
              have HLa := Lib.hid hLa
              have ok2 := hfq.keep (fun h => h) ok
              have oe2 := hfq.keep (fun h => h) oe
              have kc0 : wr.cell? ⟨bk, 0, none⟩ = some (.int .i64 y.1.1) := cell_of_ob ok2 0
              have kc1 : wr.cell? ⟨bk, 1, none⟩ = some (.int .i64 y.1.2) := cell_of_ob ok2 1
              have ec0 : wr.cell? ⟨be, 0, none⟩ = some (.int .i64 y.2.1) := cell_of_ob oe2 0
              have ec1 : wr.cell? ⟨be, 1, none⟩ = some (.int .i64 y.2.2) := cell_of_ob oe2 1
              have hbk := ob_lt ok2
              have hbe := ob_lt oe2
              have hall6 := hall5.step hfq (S := fun _ => False) (fun _ h => h.elim)
              by_cases hqi : q < i + 1
              · obtain ⟨B, hB⟩ : ∃ B, xs[q]? = some B := ⟨_, List.getElem?_eq_getElem (by have := HN.out; omega)⟩
                obtain ⟨g', off', n', cap', heq, hgl', b0, b1, b2, b3, b4⟩ := (hxs.of hall6 (fun _ h => h.elim)).act hB
                cases heq
                have HS := Lib.hid (lastAt_succ xs y.1 q B hB)
                clear hLa hB
                go_upto_region 27 with fail
                go_cut [102] (fun s wx => s = .bool (B.kind == 0 && k2eq B.k.1 B.k.2 y.1.1 y.1.2) ∧ wx = wr.alloc (.cells #[.int .i64 B.kind, .int .i64 B.k.1, .int .i64 B.k.2, .int .i64 B.e.1, .int .i64 B.e.2] 41))
                case first =>
                  cases k0 : (B.kind == 0)
                  case false =>
                    go_wp2_with fail
                    go_meet
                    exact ⟨by rw [k0]; rfl, rfl⟩
                  case true =>
                    go_wp2_with fail
                    go_meet
                    exact ⟨by rw [k0]; rfl, rfl⟩
                case rest =>
                  obtain ⟨rfl, rfl⟩ := hcut
                  obtain ⟨wd, hwd⟩ : ∃ wd, wd = wr.alloc (.cells #[.int .i64 B.kind, .int .i64 B.k.1, .int .i64 B.k.2, .int .i64 B.e.1, .int .i64 B.e.2] 41) := ⟨_, rfl⟩
                  rw [← hwd]
                  have hfd : Fr (fun _ => False) w5 wd := by rw [hwd]; exact hfq.alloc _
                  obtain ⟨bB, hbB⟩ : ∃ bB, bB = wr.heap.size := ⟨_, rfl⟩
                  have oB : ob wd bB = some (.cells #[.int .i64 B.kind, .int .i64 B.k.1, .int .i64 B.k.2, .int .i64 B.e.1, .int .i64 B.e.2] 41 (0, 0)) := by rw [hwd, hbB]; exact ob_new _ _
                  rw [← hbB]
                  have ok3 := hfd.keep (fun h => h) ok
                  have oe3 := hfd.keep (fun h => h) oe
                  have kd0 : wd.cell? ⟨bk, 0, none⟩ = some (.int .i64 y.1.1) := cell_of_ob ok3 0
                  have kd1 : wd.cell? ⟨bk, 1, none⟩ = some (.int .i64 y.1.2) := cell_of_ob ok3 1
                  have hB0 : wd.cell? ⟨bB, 0, none⟩ = some (.int .i64 B.kind) := cell_of_ob oB 0
                  have hB1 : wd.cell? ⟨bB, 1, none⟩ = some (.int .i64 B.k.1) := cell_of_ob oB 1
                  have hB2 : wd.cell? ⟨bB, 2, none⟩ = some (.int .i64 B.k.2) := cell_of_ob oB 2
                  have sB := ob_lt oB
                  have sk := ob_lt ok3
                  clear hwd hbB kc0 kc1 ec0 ec1 b0 b1 b2 b3 b4 hbk hbe
                  obtain ⟨X1, hX1⟩ : ∃ X1, X1 = (B.kind == 0 && k2eq B.k.1 B.k.2 y.1.1 y.1.2) := ⟨_, rfl⟩
                  rw [← hX1]
                  have HX1 := Lib.hid hX1
                  clear hX1
                  go_upto_if 102 with fail
                  go_cut [13] (fun s wx => s = .int .i64 (if X1 then (q : Int) else La) ∧ wx = wd)
                  case first =>
                    cases X1
                    case false =>
                      go_wp2_with fail
                      go_meet
                      exact ⟨by simp, rfl⟩
                    case true =>
                      go_wp2_with fail
                      go_meet
                      exact ⟨by simp, rfl⟩
                  case rest =>
                    obtain ⟨rfl, hwc⟩ := hcut
                    rw [hwc]
                    clear hwc
                    obtain ⟨L1, hL1⟩ : ∃ L1 : Int, L1 = if X1 then (q : Int) else La := ⟨_, rfl⟩
                    rw [← hL1]
                    have HL1' := Lib.hid hL1
                    clear hL1
                    go_upto_region 29 with fail
                    go_cut [134] (fun s wx => s = .bool (decide (0 ≤ L1) && (B.kind == 1 && k2eq B.k.1 B.k.2 y.1.1 y.1.2 || B.kind == 2 && B.k.1 == y.1.1 || B.kind == 3)) ∧ wx = wd)
                    case first =>
                      by_cases sg : 0 ≤ L1
                      · cases k1 : (B.kind == 1)
                        case true =>
                          have k2 : (B.kind == 2) = false := by simp at k1 ⊢; omega
                          have k3 : (B.kind == 3) = false := by simp at k1 ⊢; omega
                          cases kk : k2eq B.k.1 B.k.2 y.1.1 y.1.2
                          case false =>
                            go_wp2_with fail
                            go_meet
                            exact ⟨by rw [decide_eq_true sg, k1, k2, k3, kk]; rfl, rfl⟩
                          case true =>
                            go_wp2_with fail
                            go_meet
                            exact ⟨by rw [decide_eq_true sg, k1, k2, k3, kk]; rfl, rfl⟩
                        case false =>
                          cases k2 : (B.kind == 2)
                          case true =>
                            have k3 : (B.kind == 3) = false := by simp at k2 ⊢; omega
                            cases ka : (B.k.1 == y.1.1)
                            case false =>
                              go_wp2_with fail
                              go_meet
                              exact ⟨by rw [decide_eq_true sg, k1, k2, k3, ka]; rfl, rfl⟩
                            case true =>
                              go_wp2_with fail
                              go_meet
                              exact ⟨by rw [decide_eq_true sg, k1, k2, k3, ka]; rfl, rfl⟩
                          case false =>
                            go_wp2_with fail
                            go_meet
                            exact ⟨by rw [decide_eq_true sg, k1, k2]; rfl, rfl⟩
                      · go_wp2_with fail
                        go_meet
                        exact ⟨by rw [decide_eq_false (by omega)]; rfl, rfl⟩
                    case rest =>
                      obtain ⟨rfl, hwc⟩ := hcut
                      rw [hwc]
                      clear hwc
                      obtain ⟨X2, hX2⟩ : ∃ X2, X2 = (decide (0 ≤ L1) && (B.kind == 1 && k2eq B.k.1 B.k.2 y.1.1 y.1.2 || B.kind == 2 && B.k.1 == y.1.1 || B.kind == 3)) := ⟨_, rfl⟩
                      rw [← hX2]
                      have HX2 := Lib.hid hX2
                      clear hX2
                      have hst : lastAt xs y.1 (q + 1) = if X2 then -1 else L1 := by
                        rw [HS.out, ← HLa.out, lstep_bool, HX2.out, HL1'.out, HX1.out]
                      have HST := Lib.hid hst
                      clear hst
                      cases X2
                      case false =>
                        go_wp2_with fail
                        go_roundw
                        case rel => exact ⟨q + 1, by omega, by go_num, _, rfl, by rw [HST.out]; simp, hfd⟩
                        case measure => simp [intOf]; omega
                      case true =>
                        go_wp2_with fail
                        go_roundw
                        case rel => exact ⟨q + 1, by omega, by go_num, _, rfl, by rw [HST.out]; simp, hfd⟩
                        case measure => simp [intOf]; omega
              · obtain rfl : q = i + 1 := by omega
                obtain rfl : La = J := by rw [HLa.out, hJ2.out]
                clear hLa
                obtain ⟨g', off', n', cap', heq, hgl', b0, b1, b2, b3, b4⟩ := (hxs.of hall6 (fun _ h => h.elim)).act haJ.out
                cases heq
                rw [heJ.out] at b3 b4
                have hk1 : k2eq y.2.1 y.2.2 y.2.1 y.2.2 = true := by simp [k2eq]
                have hJN : J < N := by omega
                go_wp2_with fail
                refine wp_region_canon [0, 1, 2, 3, 4, 5, 6, 7, 8, 9, 10, 11, 12, 13, 14] (by kernel_rfl) (by kernel_rfl) (fun K hK => ?_)
                simp only [List.map_cons, List.map_nil, List.getD_cons_succ, List.getD_cons_zero]
                go_wp2
                refine hK _ _ (by kernel_rfl) ?_
                clear hK K
                go_wp2
                go_roundw
                case rel => exact ⟨j + 1, by omega, by go_num, (h35.step hfq (fun _ h => h.elim)).drew⟩
                case measure => simp [intOf]; omega
          · go_wp2
            go_roundw
            case rel => exact ⟨i + 1, by omega, by go_num, by rw [← HLL.out]; exact hx3.keep hfj, by rw [← HLL.out]; exact hlen2⟩
            case measure => simp [intOf]; omega
    · go_wp2_with fail
      refine (lives_any _).mono ?_
      rintro e w7 ⟨rfl, hf7⟩
      go_wp2
      go_ret
      exact ⟨rfl, (hf1.step hx.fr (fun k hk => by rcases hk with rfl | rfl <;> omega)).step hf7 (fun _ h => h.elim)⟩
end Go.Proofs.Ytehgfhcpjeepkaa
