/- EntrySame, walked. No conditions. -/
import Derived.Test.YtjgjgkcboigocaaEnLives
import Derived.Test.YtjgjgkcboigocaaEnWholes
import Derived.Test.YtjgjgkcboigocaaEnInsert
import Derived.Test.YtjgjgkcboigocaaEnCuts
import Derived.Test.YtjgjgkcboigocaaEnLike
namespace Go.Proofs.Ytjgjgkcboigocaa
open Go.RowKit
set_option linter.unusedSimpArgs false
set_option linter.unusedVariables false
/-- A list that may stand in l's place. -/
structure Alt (l m : List Ent) : Prop where
  right : rightB 0 m = true
  len : m.length ≤ 200
  wf : ∀ x ∈ m, WfE x
  fwd : Sub l m
  back : Sub m l
theorem alt_clip {l : List Ent} (p : Int) (hr : rightB 0 l = true) (hl : l.length ≤ 100) (hw : ∀ x ∈ l, WfE x) : Alt l (clipL l p) :=
  ⟨rightB_clip p hr, by have := (clipL_len p hr).2; omega, clip_wf hr hw, (clip_sub l p).1, (clip_sub l p).2⟩
theorem alt_merge {l : List Ent} (hr : rightB 0 l = true) (hl : l.length ≤ 100) (hw : ∀ x ∈ l, WfE x) : Alt l (mergeL l) :=
  ⟨rightB_merge hr, by have := mergeL_len l; omega, merge_wf hw, (merge_sub hr).1, (merge_sub hr).2⟩
theorem alt_both {l : List Ent} (p : Int) (hr : rightB 0 l = true) (hl : l.length ≤ 100) (hw : ∀ x ∈ l, WfE x) : Alt l (mergeL (clipL l p)) :=
  ⟨rightB_merge (rightB_clip p hr), by have := mergeL_len (clipL l p); have := (clipL_len p hr).2; omega, merge_wf (clip_wf hr hw),
    (clip_sub l p).1.trans (merge_sub (rightB_clip p hr)).1, (merge_sub (rightB_clip p hr)).2.trans (clip_sub l p).2⟩
set_option maxRecDepth 100000 in
set_option maxHeartbeats 8000000 in
theorem same_walk (w : World) (A : Option Addr) (N C : Nat) (l : List Ent) (h : Rd w 10 (.slice A N C) (l.flatMap ent)) (hw : ∀ x ∈ l, WfE x) (a p : Int) (ha : -9223372036854775808 ≤ a ∧ a < 9223372036854775808) (hp : -9223372036854775808 ≤ p ∧ p < 9223372036854775808) :
    Calls Try.prog 10 #[.slice A N C, .int .i64 a, .int .i64 p] w fun e w' => e = .returned (.bool true) ∧ Fr (fun _ => False) w w' := by
  obtain ⟨rb, hrb⟩ : ∃ rb, rb = (decide (l.length ≤ 100) && rightB 0 l) := ⟨_, rfl⟩
  have hra := right_any h
  rw [← hrb] at hra
  have HW := Lib.hid hw
  clear hw
  obtain ⟨a1, a2⟩ := ha
  obtain ⟨p1, p2⟩ := hp
  go_enter Try.func10, Try.ntmps10
  go_wp2_with fail
  refine hra.mono ?_
  rintro e w1 ⟨rfl, hf1⟩
  clear hra
  cases rb with
  | false =>
    clear hrb
    go_wp2_with fail
    refine (lives_any _).mono ?_
    rintro e w7 ⟨rfl, hf7⟩
    go_wp2
    go_ret
    exact ⟨rfl, hf1.also hf7⟩
  | true =>
    have hrb' := hrb.symm
    simp only [Bool.and_eq_true, decide_eq_true_eq] at hrb'
    obtain ⟨hle, hr⟩ := hrb'
    have h1 := h.of hf1 (fun _ h => h.elim)
    have HR := Lib.hid hr
    have HLE := Lib.hid hle
    have HA1 := Lib.hid (alt_clip a hr hle HW.out)
    have HA2 := Lib.hid (alt_merge hr hle HW.out)
    have HA3 := Lib.hid (alt_both a hr hle HW.out)
    clear hrb hr hle
    go_wp2_with fail
    refine (clip_any h1 (by have := HLE.out; omega) HR.out a).mono ?_
    rintro e w2 ⟨v1, rfl, hs1, hf2, -⟩
    obtain ⟨B1, M1, D1, rfl⟩ := hs1.shape
    have h2 := h1.of hf2 (fun _ h => h.elim)
    go_wp2_with fail
    refine (merge_any h2 (by have := HLE.out; omega) HR.out).mono ?_
    rintro e w3 ⟨v2, rfl, hs2, hf3, -⟩
    obtain ⟨B2, M2, D2, rfl⟩ := hs2.shape
    have h3 := h2.of hf3 (fun _ h => h.elim)
    go_wp2_with fail
    refine (clip_any h3 (by have := HLE.out; omega) HR.out a).mono ?_
    rintro e w4 ⟨v3, rfl, hs3, hf4, -⟩
    obtain ⟨B3, M3, D3, rfl⟩ := hs3.shape
    go_wp2_with fail
    refine (merge_any (Sl.rd hs3) (by have := HA1.out.len; omega) HA1.out.right).mono ?_
    rintro e w5 ⟨v4, rfl, hs4, hf5, -⟩
    obtain ⟨B4, M4, D4, rfl⟩ := hs4.shape
    obtain ⟨bs, hbs⟩ : ∃ bs, bs = w5.heap.size := ⟨_, rfl⟩
    obtain ⟨W, hW⟩ : ∃ W, W = w5.alloc (.cells #[.slice B1 M1 D1, .slice B2 M2 D2, .slice B4 M4 D4] 22) := ⟨_, rfl⟩
    have oW : ob W bs = some (.cells #[.slice B1 M1 D1, .slice B2 M2 D2, .slice B4 M4 D4] 22 (0, 0)) := by rw [hW, hbs]; exact ob_new _ _
    have hfW : Fr (fun _ => False) w5 W := by rw [hW]; exact (Fr.refl _ _).alloc _
    have hf1W := (((hf2.also hf3).also hf4).also hf5).also hfW
    have k1 : SE W (.slice B1 M1 D1) (clipL l a) := Sl.fr hs1 (((hf3.also hf4).also hf5).also hfW) (fun _ _ h => h)
    have k2 : SE W (.slice B2 M2 D2) (mergeL l) := Sl.fr hs2 ((hf4.also hf5).also hfW) (fun _ _ h => h)
    have k4 : SE W (.slice B4 M4 D4) (mergeL (clipL l a)) := Sl.fr hs4 hfW (fun _ _ h => h)
    have hRW := h1.of hf1W (fun _ h => h.elim)
    have key : ∀ i, i < 3 → ∃ Bm Mm Dm m, (#[.slice B1 M1 D1, .slice B2 M2 D2, .slice B4 M4 D4] : Array Value)[i]? = some (.slice Bm Mm Dm) ∧ SE W (.slice Bm Mm Dm) m ∧ Alt l m := fun i hi => by
      match i, hi with
      | 0, _ => exact ⟨_, _, _, _, rfl, k1, HA1.out⟩
      | 1, _ => exact ⟨_, _, _, _, rfl, k2, HA2.out⟩
      | 2, _ => exact ⟨_, _, _, _, rfl, k4, HA3.out⟩
    have KEY := Lib.hid key
    have hf0W := hf1.also hf1W
    clear key k1 k2 k4 hs1 hs2 hs3 hs4 h1 h2 h3 hf2 hf3 hf4 hf5 hf1W hfW hf1 h
    go_wp2_with fail
    change Code.wp _ _ _ _ (w5.alloc (.cells #[.slice B1 M1 D1, .slice B2 M2 D2, .slice B4 M4 D4] 22))
    rw [← hW, ← hbs]
    clear hW hbs
    go_loopw [29] (fun v wr => ∃ i : Nat, i ≤ 3 ∧ v = .int .i64 i ∧ Fr (fun _ => False) W wr) (fun v _ => 3 - (intOf v).toNat)
    case atStart => exact ⟨0, by omega, rfl, Fr.refl _ _⟩
    case round =>
      obtain ⟨i, hi, rfl, hf⟩ := hrel
      by_cases hlt : i < 3
      · obtain ⟨Bm, Mm, Dm, m, hc, hsm, halt⟩ := KEY.out i hlt
        have or := hf.keep (fun h => h) oW
        have ci : wr.cell? ⟨bs, i, none⟩ = some (.slice Bm Mm Dm) := by rw [cell_of_ob or]; exact hc
        have si := ob_lt or
        have HSM := Lib.hid hsm
        have HALT := Lib.hid halt
        clear hc or hsm halt
        have her := eright_any (Sl.rd (Sl.fr HSM.out hf (fun _ _ h => h))) (by have := HALT.out.len; omega) HALT.out.wf
        rw [HALT.out.right] at her
        have hlike1 := fun (X : World) (hX : Fr (fun _ => False) W X) (q : Int) => like_any (hRW.of hX (fun _ h => h.elim)) (Sl.rd (Sl.fr HSM.out hX (fun _ _ h => h))) (by have := HLE.out; omega) (by have := HALT.out.len; omega) HR.out HALT.out.right q (likes_of HR.out HALT.out.right HALT.out.fwd HALT.out.back q)
        have hlike2 := fun (X : World) (hX : Fr (fun _ => False) W X) (q : Int) => like_any (Sl.rd (Sl.fr HSM.out hX (fun _ _ h => h))) (hRW.of hX (fun _ h => h.elim)) (by have := HALT.out.len; omega) (by have := HLE.out; omega) HALT.out.right HR.out q (likes_of HALT.out.right HR.out HALT.out.back HALT.out.fwd q)
        have HL1 := Lib.hid hlike1
        have HL2 := Lib.hid hlike2
        clear hlike1 hlike2
        go_wp2_with fail
        refine her.mono ?_
        rintro e x1 ⟨rfl, g1⟩
        have gg1 := hf.also g1
        clear her
        go_wp2_with fail
        refine (HL1.out _ gg1 p).mono ?_
        rintro e x2 ⟨rfl, g2⟩
        have gg2 := gg1.also g2
        go_wp2_with fail
        refine (HL1.out _ gg2 a).mono ?_
        rintro e x3 ⟨rfl, g3⟩
        have gg3 := gg2.also g3
        go_wp2_with fail
        refine (HL2.out _ gg3 p).mono ?_
        rintro e x4 ⟨rfl, g4⟩
        have gg4 := gg3.also g4
        go_wp2
        go_roundw
        case rel => exact ⟨i + 1, by omega, by go_num, gg4⟩
        case measure => simp [intOf]; omega
      · obtain rfl : i = 3 := by omega
        have hR1 := hRW.of hf (fun _ h => h.elim)
        have hf0r := hf0W.also hf
        have half : ∀ x : Int, -9223372036854775808 ≤ x → x < 9223372036854775808 → -4611686018427387904 ≤ x.tdiv 2 ∧ x.tdiv 2 ≤ 4611686018427387903 := fun x h1 h2 => by
          rcases Int.le_total 0 x with h0 | h0
          · rw [Int.tdiv_eq_ediv_of_nonneg h0]; omega
          · have e : x.tdiv 2 = -((-x).tdiv 2) := by rw [Int.neg_tdiv]; omega
            rw [e, Int.tdiv_eq_ediv_of_nonneg (by omega)]; omega
        obtain ⟨⟨α1, α2⟩, β1, β2⟩ := And.intro (half a a1 a2) (half p p1 p2)
        obtain ⟨α, hα⟩ : ∃ α, a.tdiv 2 = α := ⟨_, rfl⟩
        obtain ⟨β, hβ⟩ : ∃ β, p.tdiv 2 = β := ⟨_, rfl⟩
        rw [hα] at α1 α2
        rw [hβ] at β1 β2
        have hthree := three a (α + β) (rightB_clip (α + β) (rightB_clip a HR.out))
        have hclen := clip2_len a (α + β) HR.out
        have hgw := gone_wf (lo := a) (hi := α + β) HR.out HW.out
        have hmc : mergeL (clipL (clipL l a) (α + β)) = mergeL l := by rw [merge_clip, merge_clip]
        have hrc := rightB_clip (α + β) (rightB_clip a HR.out)
        have hdl : leftL l a (α + β) = (clipL (clipL l a) (α + β)).filter (fun x => !inB a (α + β) x) := rfl
        have hdg : goneL l a (α + β) = (clipL (clipL l a) (α + β)).filter (inB a (α + β)) := rfl
        obtain ⟨c, hc⟩ : ∃ c, c = clipL (clipL l a) (α + β) := ⟨_, rfl⟩
        rw [← hc] at hthree hclen hmc hrc hdl hdg
        obtain ⟨P, G, Q, e1, e2, e3, -⟩ := hthree
        rw [e3] at hdl
        rw [e2] at hdg
        have HDL := Lib.hid hdl
        have HDG := Lib.hid hdg
        rw [hdg] at hgw
        have HGW := Lib.hid hgw
        have hcl : P.length + G.length + Q.length ≤ 102 := by
          have : c.length = P.length + G.length + Q.length := by rw [e1]; simp [Nat.add_assoc]
          have := HLE.out; omega
        have HCL := Lib.hid hcl
        have HRC := Lib.hid (show rightB 0 (P ++ G ++ Q) = true by rw [← e1]; exact hrc)
        have HMC := Lib.hid (show mergeL (P ++ G ++ Q) = mergeL l by rw [← e1]; exact hmc)
        clear hc hclen hmc hrc hdl hdg hgw hcl e1 e2 e3 half oW
        go_wp2_with fail
        refine (cut_any hR1 (by have := HLE.out; omega) HR.out a (α + β)).mono ?_
        rw [HDL.out, HDG.out]
        rintro e w6 ⟨v6, v7, rfl, hs6, hs7, hf6, -, -⟩
        obtain ⟨B7, M7, D7, rfl⟩ := hs7.shape
        have hM7 : M7 = G.length := SE.elen hs7
        have hM75 : M7 ≤ 102 := by have := HCL.out; omega
        have HM7 := Lib.hid hM7
        have hf06 := hf0r.also hf6
        have hR6 := hR1.of hf6 (fun _ h => h.elim)
        have HS7 := Lib.hid hs7
        have hs60 : SE w6 v6 (P ++ G.take 0 ++ Q) := by simpa using hs6
        clear hM7 hR1 hs7 hs6 hf0r hf0W hf
        go_wp2_with fail
        go_loopw [9, 71] (fun sl v wr => ∃ j : Nat, j ≤ M7 ∧ v = .int .i64 j ∧ SE wr sl (P ++ G.take j ++ Q) ∧ Fr (fun _ => False) w6 wr) (fun _ v _ => M7 - (intOf v).toNat)
        case atStart => exact ⟨0, by omega, rfl, hs60, Fr.refl _ _⟩
        case round =>
          obtain ⟨j, hj, rfl, hsl, hf7⟩ := hrel
          clear hs60
          by_cases hjM : j < M7
          · obtain ⟨g, hg⟩ : ∃ g, G[j]? = some g := ⟨_, List.getElem?_eq_getElem (by have := HM7.out; omega)⟩
            obtain ⟨b, off, n', cap', heq, hgl, -, -, c0, c1, c2, c3, c4, c5, c6, c7, c8, c9⟩ := SE.entry (Sl.fr HS7.out hf7 (fun _ _ h => h)) hg
            cases heq
            have htk : G.take (j + 1) = G.take j ++ [g] := by rw [List.take_add_one, hg]; rfl
            have hsub : List.Sublist (P ++ G.take j ++ g :: Q) (P ++ G ++ Q) := by
              have e : P ++ G.take j ++ g :: Q = P ++ G.take (j + 1) ++ Q := by rw [htk]; simp
              rw [e]
              exact List.Sublist.append (List.Sublist.append (List.Sublist.refl P) (List.take_sublist _ _)) (List.Sublist.refl Q)
            have hrg : rightB 0 (P ++ G.take j ++ g :: Q) = true := rightB_sub hsub HRC.out
            obtain ⟨q1, q2⟩ := put_back hrg
            have hrl : rightB 0 (P ++ G.take j ++ Q) = true := rightB_sub (List.Sublist.append (List.Sublist.refl _) (List.sublist_cons_self g Q)) hrg
            have hll : (P ++ G.take j ++ Q).length ≤ 500 := by
              have h1 : (G.take j).length ≤ G.length := by rw [List.length_take]; omega
              have h2 := HCL.out
              simp only [List.length_append]; omega
            have hwg := HGW.out g (List.mem_of_getElem? hg)
            have hins := fun (W' : World) (hW' : Fr (fun _ => False) wr W') => insert_any (Sl.rd (Sl.fr hsl hW' (fun _ _ h => h))) hll hrl g hwg
            have hil : insL (P ++ G.take j ++ Q) g = P ++ G.take (j + 1) ++ Q := by unfold insL; rw [if_pos q1, q2, htk]; simp
            rw [q1, hil] at hins
            have HINS := Lib.hid hins
            clear hg htk hsub hrg q1 q2 hrl hll hwg hins hil
            go_wp2_with fail
            refine (HINS.out _ ((Fr.refl _ wr).alloc _)).mono ?_
            rintro e w8 ⟨v8, rfl, hs8, hf8, -⟩
            go_wp2
            go_roundw
            case rel => exact ⟨j + 1, by omega, by go_num, hs8, (hf7.alloc _).also hf8⟩
            case measure => simp [intOf]; omega
          · obtain rfl : j = M7 := by omega
            have hsl2 : SE wr u9 (P ++ G ++ Q) := by
              have := hsl
              rw [List.take_of_length_le (by rw [HM7.out]; exact Nat.le_refl _)] at this
              exact this
            obtain ⟨B9, M9, D9, rfl⟩ := hsl2.shape
            have hml := mergeL_len l
            clear hsl
            go_wp2_with fail
            refine (merge_any (Sl.rd hsl2) (by have := HCL.out; simp only [List.length_append]; omega) HRC.out).mono ?_
            rw [HMC.out]
            rintro e x1 ⟨y1, rfl, t1, f1, -⟩
            obtain ⟨E1, E2, E3, rfl⟩ := t1.shape
            go_wp2_with fail
            refine (merge_any (hR6.of (hf7.also f1) (fun _ h => h.elim)) (by have := HLE.out; omega) HR.out).mono ?_
            rintro e x2 ⟨y2, rfl, t2, f2, -⟩
            obtain ⟨F1, F2, F3, rfl⟩ := t2.shape
            go_wp2_with fail
            refine (same_self (Sl.fr t1 f2 (fun _ _ h => h)) t2 (by have := HLE.out; omega)).mono ?_
            rintro e x3 ⟨rfl, f3⟩
            go_wp2_with fail
            refine (lives_any _).mono ?_
            rintro e x4 ⟨rfl, f4⟩
            go_wp2
            go_ret
            exact ⟨rfl, (((((hf06.also hf7).also f1).also f2).also f3).also f4)⟩
end Go.Proofs.Ytjgjgkcboigocaa
