/- ObjectFiles returns true: the walk. No conditions. -/
import Derived.Test.YtopfknikmhkaeaaObFilesP
import Derived.Deep.CutBlock
import Derived.Deep.RegionHeld3
import Derived.Deep.QuietTactic
import Derived.BigQuiet
namespace Go.Proofs.Ytopfknikmhkaeaa
open Go.RowKit
set_option linter.unusedSimpArgs false
set_option linter.unusedVariables false
attribute [local go_sem] Oper.semAt_some
abbrev TFs (vi vf : Value) (n : Nat) (fs : List Int) : Thing := Star (SlT 3 1 vi (ints (upto n))) (SlT 3 1 vf (ints fs))
theorem TFs.steady (vi vf : Value) (n : Nat) (fs : List Int) : Steady (TFs vi vf n fs) := (SlT.steady _ _ _ _).star (SlT.steady _ _ _ _)
theorem mem_take_succ {fs : List Int} {t : Nat} {x f : Int} (h : fs[t]? = some x) : f ∈ fs.take (t + 1) ↔ f ∈ fs.take t ∨ f = x := by
  rw [List.take_add_one, h]; simp
set_option maxRecDepth 100000 in
set_option maxHeartbeats 8000000 in
theorem files_walk (W : World) (A : Option Addr) (N C : Nat) (xs : List Int) (index : Int) (hr : UintOK index) (hx : Rd W 1 (.slice A N C) (xs.flatMap uint1)) (hN : N = xs.length) (hg : ∀ x ∈ xs, UintOK x) :
    Calls Try.prog 4 #[.slice A N C, .int .u64 index] W fun e w' => e = .returned (.bool true) ∧ Fr (fun _ => False) W w' := by
  have HN := Lib.hid hN
  have HG := Lib.hid hg
  clear hN hg
  obtain ⟨hr0, hr1⟩ := hr
  obtain ⟨k, hk, hk0, hk1⟩ : ∃ k, index % 4096 = k ∧ 0 ≤ k ∧ k < 4096 := ⟨index % 4096, rfl, by omega, by omega⟩
  obtain ⟨i0, hi, hz, hsz, hby⟩ := info_ofG infoI
  go_enter Try.func4, Try.ntmps4
  go_wp2_with fail
  refine (newH (W := W) (P := fun _ => False) 40 (by omega) (by omega) (Fr.refl _ W) (fun _ h => h.elim)).mono ?_
  rintro e w1 ⟨b, rfl, hH1, -⟩
  by_cases hbig : 30 < N
  · go_wp2_with fail
    refine (lives_any w1).mono ?_
    rintro e w2 ⟨rfl, hf2⟩
    go_wp2
    go_ret
    exact ⟨rfl, hH1.hf.step hf2 (fun _ h => h.elim)⟩
  · have hN3 : N ≤ 30 := by omega
    clear hbig
    have HR := Lib.hid (show ∀ w2, Fr (fun _ => False) W w2 → Rd w2 1 (.slice A N C) (xs.flatMap uint1) from fun w2 hf => hx.of hf (fun _ h => h.elim))
    clear hx
    have h0 : Held (fun _ => False) W w1 (Star (ObX b 40 (mkF k 0 [])) (TFs (.slice none 0 0) (.slice none 0 0) 0 [])) := hH1.repl (fun S _ => ⟨fun _ => False, fun _ => False, SlT.nil _ _ _ _, SlT.nil _ _ _ _, fun _ h => h.elim, fun _ h => h.elim, fun _ h => h.elim⟩)
    clear hH1
    go_wp2_with fail
    try simp only [hk]
    go_loopw [39, 7, 8] (fun si vi vf wr => ∃ (j : Nat) (fs : List Int), j ≤ N ∧ si = .int .i64 j ∧ Held (fun _ => False) W wr (Star (ObX b 40 (mkF k 0 fs)) (TFs vi vf fs.length fs)) ∧ Hid (FD fs ∧ fs.length ≤ j ∧ ∀ f ∈ fs, 0 ≤ f)) (fun si _ _ _ => N - (intOf si).toNat)
    case atStart => exact ⟨0, [], by omega, rfl, h0, Lib.hid ⟨fun i j f h => by simp at h, by simp, by simp⟩⟩
    case round =>
      obtain ⟨j, fs, hjN, rfl, hH, HH⟩ := hrel
      clear h0
      obtain ⟨S0, hS0⟩ := hH.rot.left
      obtain ⟨S1, hS1⟩ := hH.rot.rot.left
      obtain ⟨Ai, Ni, Ci, rfl⟩ := hS0.1.shape
      obtain ⟨Af, Nf, Cf, rfl⟩ := hS1.1.shape
      have hNi : Ni = fs.length := by have := hS0.1.len; simp only [List.length_map, upto_len, sliceLen] at this; omega
      have hNf : Nf = fs.length := by have := hS1.1.len; simp only [List.length_map, sliceLen] at this; omega
      have hfl : fs.length ≤ 30 := by have := HH.out.2.1; omega
      by_cases hlt : j < N
      · obtain ⟨x, hxj⟩ : ∃ x, xs[j]? = some x := ⟨_, List.getElem?_eq_getElem (by have := HN.out; omega)⟩
        obtain ⟨g, off, n', cap', heq, hgl, c0⟩ := Rd.uint (HR.out wr hH.hf) hxj
        cases heq
        obtain ⟨hx0, hx1⟩ := HG.out x (List.mem_of_getElem? hxj)
        obtain ⟨f, hf, hf0, hf1⟩ : ∃ f, x % 4 = f ∧ 0 ≤ f ∧ f < 4 := ⟨x % 4, rfl, by omega, by omega⟩
        have hmk := makeH hH (TFs.steady _ _ _ _) (fun _ h => h.elim) (mkF_keys k fs (by omega)) f
        obtain ⟨n, hn⟩ : ∃ n, fs.length = n := ⟨_, rfl⟩
        rw [hn] at hNi hNf hfl
        have HNN := Lib.hid hn
        have hNi30 : Ni ≤ 30 := by omega
        have HNI := Lib.hid hNi
        have HNF := Lib.hid hNf
        have hNf30 : Nf ≤ 30 := by omega
        have hfl40 : fs.length < 40 := by omega
        clear hxj hNi hNf hS0 hS1 hk hn
        go_wp2_with fail
        try simp only [hf]
        refine hmk.mono ?_
        rintro e w2 ⟨id, er, l', rfl, hM, hH2, -⟩
        have hMM := Lib.hid (mkF_make hM hf0 hfl40)
        clear hmk hM hf c0 hfl40 hH
        obtain ⟨S1, hS1⟩ := hH2.rot.rot.left
        have hsf := hS1.1
        clear hS1
        have hfin : Hid (Held (fun _ => False) W w2 (Star (ObX b 40 l') (TFs (.slice Ai Ni Ci) (.slice Af Nf Cf) fs.length fs))) := Lib.hid hH2
        clear hH2
        go_wp2_with fail
        go_loop [54, 14] (fun si st => ∃ t : Nat, t ≤ Nf ∧ si = .int .i64 t ∧ st = .bool (decide (0 < f ∧ f ∈ fs.take t))) (fun si _ => Nf - (intOf si).toNat)
        case atStart => exact ⟨0, by omega, rfl, by simp⟩
        case round =>
          obtain ⟨t, ht, rfl, rfl⟩ := hrel
          by_cases hlt2 : t < Nf
          · obtain ⟨y, hy⟩ : ∃ y, fs[t]? = some y := ⟨_, List.getElem?_eq_getElem (by have := HNF.out; have := HNN.out; omega)⟩
            have hki : (ints fs)[t]? = some (.int .i64 y) := by rw [List.getElem?_map, hy]; rfl
            obtain ⟨g2, off2, n2, cap2, heq2, hgl2, hcs, -, -⟩ := hsf.form (by intro e; rw [e] at hki; cases hki)
            cases heq2
            have c1 := hcs t _ hki
            have hms := mem_take_succ (f := f) hy
            obtain ⟨q, hq⟩ : ∃ q, decide (0 < f ∧ f ∈ fs.take t) = q := ⟨_, rfl⟩
            obtain ⟨q2, hq2⟩ : ∃ q2, decide (0 < f ∧ f ∈ fs.take (t + 1)) = q2 := ⟨_, rfl⟩
            have hqq : q2 = (q || (decide (0 < f) && decide (y = f))) := by
              rw [← hq2, ← hq, Bool.eq_iff_iff]
              simp only [decide_eq_true_eq, Bool.or_eq_true, Bool.and_eq_true, hms, eq_comm (a := f)]
              constructor
              · rintro ⟨a, b | b⟩
                · exact .inl ⟨a, b⟩
                · exact .inr ⟨a, b⟩
              · rintro (⟨a, b⟩ | ⟨a, b⟩)
                · exact ⟨a, .inl b⟩
                · exact ⟨a, .inr b⟩
            rw [hq]
            have HQ2 := Lib.hid hq2
            have HQQ := Lib.hid hqq
            clear hq hq2 hqq hy hki hcs hms
            cases q with
            | true =>
              go_wp2
              go_round
              case rel => exact ⟨t + 1, by omega, by go_num, by rw [HQ2.out, HQQ.out]; rfl⟩
              case measure => simp [intOf]; omega
            | false =>
              by_cases h0 : 0 < f
              · by_cases hyf : y = f
                · go_wp2
                  go_round
                  case rel => exact ⟨t + 1, by omega, by go_num, by rw [HQ2.out, HQQ.out]; simp [h0, hyf]⟩
                  case measure => simp [intOf]; omega
                · go_wp2
                  go_round
                  case rel => exact ⟨t + 1, by omega, by go_num, by rw [HQ2.out, HQQ.out]; simp [h0, hyf]⟩
                  case measure => simp [intOf]; omega
              · go_wp2
                go_round
                case rel => exact ⟨t + 1, by omega, by go_num, by rw [HQ2.out, HQQ.out]; simp [h0]⟩
                case measure => simp [intOf]; omega
          · obtain rfl : t = Nf := by omega
            rw [List.take_of_length_le (by have := HNF.out; have := HNN.out; omega)]
            rcases hMM.out with ⟨m1, m2, rfl, rfl, hl'⟩ | ⟨m1, rfl, rfl, hl'⟩
            · have hd : decide (0 < f ∧ f ∈ fs) = true := decide_eq_true ⟨m1, m2⟩
              rw [hd]
              have hH2 := hfin.out
              rw [hl'] at hH2
              have HHH := Lib.hid (show FD fs ∧ fs.length ≤ j + 1 ∧ ∀ f ∈ fs, 0 ≤ f from ⟨HH.out.1, by have := HH.out.2.1; omega, HH.out.2.2⟩)
              clear hMM hfin hl' hd
              go_wp2
              go_round
              case rel => exact ⟨j + 1, fs, by omega, by go_num, hH2, HHH⟩
              case measure => simp [intOf]; omega
            · have hd : decide (0 < f ∧ f ∈ fs) = false := decide_eq_false m1
              rw [hd]
              have hH2 := hfin.out
              rw [hl'] at hH2
              have hpt := putH hH2 (TFs.steady _ _ _ _) (fun _ h => h.elim) ((fs.length : Int) + 1) k ((fs.length : Int), 0, false)
              rw [mkF_put hk0 hk1] at hpt
              have hnn : fs.length = n := HNN.out
              rw [hnn] at hpt ⊢
              obtain rfl : Ni = n := HNI.out
              have HHH := Lib.hid (show FD (fs ++ [f]) ∧ (fs ++ [f]).length ≤ j + 1 ∧ ∀ g ∈ fs ++ [f], 0 ≤ g from ⟨HH.out.1.snoc m1, by have := HH.out.2.1; simp; omega, fun g hg => by rcases List.mem_append.1 hg with h | h; exact HH.out.2.2 g h; simp at h; omega⟩)
              clear hMM hfin hl' hd hH2 hnn hsf
              go_wp2_with fail
              refine hpt.mono ?_
              rintro e w3 ⟨rfl, hH3, -⟩
              clear hpt
              obtain ⟨S0, hS0⟩ := hH3.rot.left
              obtain ⟨S1, hS1⟩ := hH3.rot.rot.left
              have hsi := hS0.1
              clear hS0 hS1
              go_wp2_with (at_builtin; go_must (first
                | (refine wpList_app (v := .slice Ai Ni Ci) rfl _ _ _ rfl Try.underlying31 hi hz hsz hby rfl (by decide) rfl (hsi.alloc _) w3.heap.size 1 1 [.int .i64 ((Ni : Int) + 1)] rfl (ob_new _ _) rfl (by simp [Value.oneCell']) (by decide) (by simp only [maxLen, sliceLen]; omega) (by simp only [sliceLen]; omega) ?_; intro v4 w4 hs4 hf4 ho4 hl4; obtain ⟨A4, N4, C4, rfl⟩ := hs4.shape; have hs4' : Sl w4 3 1 (.slice A4 N4 C4) (ints (upto (Ni + 1))) := (by rw [upto_succ]; have := HNN.out; simpa [ints, this] using hs4); have hH4 := ((hH3.keep ((ObX.steady _ _ _).star (TFs.steady _ _ _ _)) ((Fr.refl _ w3).alloc (.cells #[.int .i64 ((Ni : Int) + 1)] 3))).rot.swap.sliceA ((SlT.steady _ _ _ _).star (ObX.steady _ _ _)) (fun _ h => h.elim) hs4' ho4 hf4).swap.rot; obtain ⟨S4, hS4⟩ := hH4.left; have hsf4 := hS4.1; clear hS4)
                | (refine wpList_app (v := .slice Af t Cf) rfl _ _ _ rfl Try.underlying31 hi hz hsz hby rfl (by decide) rfl (hsf4.alloc _) w4.heap.size 1 1 [.int .i64 f] rfl (ob_new _ _) rfl (by simp [Value.oneCell']) (by decide) (by simp only [maxLen, sliceLen]; omega) (by simp only [sliceLen]; omega) ?_; intro v5 w5 hs5 hf5 ho5 hl5; obtain ⟨A5, N5, C5, rfl⟩ := hs5.shape; have hs5' : Sl w5 3 1 (.slice A5 N5 C5) (ints (fs ++ [f])) := (by simpa [ints] using hs5); have hH5 := ((hH4.keep ((SlT.steady _ _ _ _).star ((ObX.steady _ _ _).star (SlT.steady _ _ _ _))) ((Fr.refl _ w4).alloc (.cells #[.int .i64 f] 3))).swap.sliceA ((ObX.steady _ _ _).star (SlT.steady _ _ _ _)) (fun _ h => h.elim) hs5' ho5 hf5).swap.rot)))
              go_round
              case rel => exact ⟨j + 1, fs ++ [f], by omega, by go_num, by rw [List.length_append, List.length_singleton, HNN.out]; exact hH5, HHH⟩
              case measure => simp [intOf]; omega
      · obtain rfl : j = N := by omega
        have hNi30 : Ni ≤ 30 := by omega
        have HNI := Lib.hid hNi
        clear hS0 hS1 hk hNi hNf
        go_wp2_with fail
        go_loopw [102] (fun si wr => ∃ (i : Nat), i ≤ Ni ∧ si = .int .i64 i ∧ Held (fun _ => False) W wr (Star (ObX b 40 (mkF k 0 fs)) (TFs (.slice Ai Ni Ci) (.slice Af Nf Cf) fs.length fs))) (fun si _ => Ni - (intOf si).toNat)
        case atStart => exact ⟨0, by omega, rfl, hH⟩
        case round =>
          obtain ⟨i, hi', rfl, hH2⟩ := hrel
          clear hH
          by_cases hlt2 : i < Ni
          · have hil : i < fs.length := by have := HNI.out; omega
            obtain ⟨f, hf⟩ : ∃ f, fs[i]? = some f := ⟨_, List.getElem?_eq_getElem hil⟩
            have hki : (ints (upto fs.length))[i]? = some (.int .i64 ((i : Int) + 1)) := by rw [List.getElem?_map, upto_get hil]; rfl
            obtain ⟨S0, hS0⟩ := hH2.rot.left
            obtain ⟨g, off, n', cap', heq, hgl, hcs, -, -⟩ := hS0.1.form (by intro e; rw [e] at hki; cases hki)
            cases heq
            have c0 := hcs i _ hki
            obtain ⟨S1, hS1⟩ := hH2.left
            have hge := get_any hS1 ((i : Int) + 1) k
            rw [mkF_page k hf] at hge
            simp only [Option.getD_some, Option.isSome_some] at hge
            have HF := Lib.hid hf
            clear hf hki hcs hS0
            go_wp2_with fail
            refine hge.mono ?_
            rintro e w5 ⟨rfl, hf5⟩
            simp only [pgV]
            clear hge hS1 c0
            go_wp2_with fail
            have hf6 := hf5.alloc (.cells #[.int .i64 (i : Int), .int .i64 0, .bool false] 34)
            obtain ⟨w6, hw6⟩ : ∃ w6, w5.alloc (.cells #[.int .i64 (i : Int), .int .i64 0, .bool false] 34) = w6 := ⟨_, rfl⟩
            obtain ⟨pb, hpb⟩ : ∃ pb, w5.heap.size = pb := ⟨_, rfl⟩
            have ox : ob w6 pb = some (.cells #[.int .i64 (i : Int), .int .i64 0, .bool false] 34 (0, 0)) := by rw [← hw6, ← hpb]; exact ob_new _ _
            rw [hw6] at hf6
            try rw [hw6]
            try simp only [hpb]
            clear hw6 hpb hf5
            have hH6 := hH2.keep ((ObX.steady _ _ _).star (TFs.steady _ _ _ _)) hf6
            clear hH2 hf6
            obtain ⟨S1, hS1⟩ := hH6.rot.rot.left
            have hkf : (ints fs)[i]? = some (.int .i64 f) := by rw [List.getElem?_map, HF.out]; rfl
            obtain ⟨g2, off2, n2, cap2, heq2, hgl2, hcs2, -, -⟩ := hS1.1.form (by intro e; rw [e] at hkf; cases hkf)
            have hNf : Nf = fs.length := by have := hS1.1.len; simp only [List.length_map, sliceLen] at this; omega
            cases heq2
            have cf := hcs2 i _ hkf
            have cx : w6.cell? ⟨pb, 0, none⟩ = some (.int .i64 (i : Int)) := cell_of_ob ox 0
            have hpl := ob_lt ox
            have hiN : i < Nf := by omega
            have HFI : Hid (∀ p, Calls Try.prog 15 #[.pointer (some ⟨b, 0, none⟩), .int .i64 ((i : Int) + 1)] (w6.drewN p) fun e w'' => e = .returned (.int .i64 f) ∧ w6.drewN p = w'') := Lib.hid fun p => by
              obtain ⟨S, hS⟩ := (hH6.keep ((ObX.steady _ _ _).star (TFs.steady _ _ _ _)) (⟨rfl, rfl, rfl, Nat.le_refl _, fun _ _ _ => rfl⟩ : Fr (fun _ => False) w6 (w6.drewN p))).left
              have := file_any hS ((i : Int) + 1)
              rw [mkF_file k HF.out] at this
              exact this
            have hS0 : w6.cell? ⟨pb, 0, none⟩ = some (.int .i64 (i : Int)) ∧ w6.cell? ⟨g2, off2 + i, none⟩ = some (.int .i64 f) := ⟨cx, cf⟩
            clear hkf hcs2 hS1 hNf ox
            by_cases hf0 : 0 < f
            · have HOF : Hid (∀ p, Calls Try.prog 14 #[.pointer (some ⟨b, 0, none⟩), .int .i64 f] (w6.drewN p) fun e w'' => e = .returned (.int .i64 ((i : Int) + 1)) ∧ Fr (fun _ => False) w6 w'') := Lib.hid fun p => by
                have hfd : Fr (fun _ => False) w6 (w6.drewN p) := ⟨rfl, rfl, rfl, Nat.le_refl _, fun _ _ _ => rfl⟩
                obtain ⟨S, hS⟩ := (hH6.keep ((ObX.steady _ _ _).star (TFs.steady _ _ _ _)) hfd).left
                have := of2_any hS (mkF_keys k fs (by omega)) f
                rw [mkF_of k HH.out.1 HF.out hf0] at this
                exact this.mono fun e w'' ⟨a, c⟩ => ⟨a, hfd.step c (fun _ h => h.elim)⟩
              go_wp2_with fail
              go_region_held3 (fun w' => w'.cell? ⟨pb, 0, none⟩ = some (.int .i64 (i : Int)) ∧ w'.cell? ⟨g2, off2 + i, none⟩ = some (.int .i64 f)) (first | exact hS0 | assumption | go_keep)
                (first
                  | (go_at_call 15; refine (HFI.out _).mono ?_; rintro e w7 ⟨rfl, rfl⟩)
                  | (go_at_call 14; refine (HOF.out _).mono ?_; rintro e w8 ⟨rfl, hf8⟩; have hS4 : w8.cell? ⟨pb, 0, none⟩ = some (.int .i64 (i : Int)) ∧ w8.cell? ⟨g2, off2 + i, none⟩ = some (.int .i64 f) := ⟨(hf8.cell (fun h => h) hpl).trans hS0.1, (hf8.cell (fun h => h) hgl2).trans hS0.2⟩))
              all_goals (
                have hH8 := hH6.keep ((ObX.steady _ _ _).star (TFs.steady _ _ _ _)) hf8
                clear hH6 HFI HOF
                go_wp2
                go_round
                case rel => exact ⟨i + 1, by omega, by go_num, hH8⟩
                case measure => simp [intOf]; omega)
            · obtain rfl : f = 0 := by have := HH.out.2.2 f (List.mem_of_getElem? HF.out); omega
              clear hf0
              go_wp2_with fail
              go_quiet ((go_at_call 15; exact Calls.quiet_of_same ((HFI.out _).mono fun e w'' ⟨a, c⟩ => ⟨a, c.symm⟩)))
              have hH8 := hH6.keep ((ObX.steady _ _ _).star (TFs.steady _ _ _ _)) (⟨rfl, rfl, rfl, Nat.le_refl _, fun _ _ _ => rfl⟩ : Fr (fun _ => False) w6 (w6.drewN nq))
              clear hH6 HFI
              go_wp2
              go_round
              case rel => exact ⟨i + 1, by omega, by go_num, hH8⟩
              case measure => simp [intOf]; omega
          · obtain rfl : i = Ni := by omega
            obtain ⟨S1, hS1⟩ := hH2.left
            have hids := ids_any hS1 (mkF_keys k fs (by omega))
            go_wp2_with fail
            refine hids.mono ?_
            rintro e w5 ⟨A5, N5, C5, rfl, hs5, ho5, hf5⟩
            have hN5 : N5 = i := by have := hs5.len; simp only [List.length_map, idsOf_len, mkF_len, sliceLen] at this; have := HNI.out; omega
            subst hN5
            clear hids hs5 ho5
            go_wp2_with fail
            refine (lives_any w5).mono ?_
            rintro e w6 ⟨rfl, hf6⟩
            go_wp2
            go_ret
            exact ⟨rfl, (hH2.hf.step hf5 (fun _ h => h.elim)).step hf6 (fun _ h => h.elim)⟩
end Go.Proofs.Ytopfknikmhkaeaa
