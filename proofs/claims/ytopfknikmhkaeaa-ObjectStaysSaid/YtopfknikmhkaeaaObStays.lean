/- ObjectStays returns true: the walk. No conditions. -/
import Derived.Test.YtopfknikmhkaeaaObWith
import Derived.Test.YtopfknikmhkaeaaObLives
namespace Go.Proofs.Ytopfknikmhkaeaa
open Go.RowKit
set_option linter.unusedSimpArgs false
set_option linter.unusedVariables false
attribute [local go_sem] Oper.semAt_some
abbrev Pgs := List (Int × Pg)
/-- One object, of file 7. -/
def lst (n : Int) (q : Pgs) : List (Int × Obt) := [(1, (7, n, q))]
/-- The same when nobody holds it: it is there as long as it has pages. -/
def stP (q : Pgs) : List (Int × Obt) := if q = [] then [] else lst 0 q
theorem keys_lst (n : Int) (q : Pgs) : ObKeys (lst n q) := ⟨by simp [lst, wf1], by simp [lst]⟩
theorem keys_stP (q : Pgs) : ObKeys (stP q) := by
  unfold stP
  split
  · exact ⟨by simp, by simp⟩
  · exact keys_lst 0 q
theorem of_lst (n : Int) (q : Pgs) : ofR (lst n q) 7 = 1 := ofR_one (by omega) (by simp [lst]) (by simp [lst, fileR, alGet]) (by simp [lst])
theorem of_stP (q : Pgs) : ofR (stP q) 7 = if q = [] then 0 else 1 := by
  unfold stP
  split
  · exact ofR_none (by simp)
  · exact of_lst 0 q
theorem make_lst {most id er : Int} {l' : List (Int × Obt)} {n : Int} {q : Pgs} (h : MakeR most (lst n q) 7 id er l') : id = 0 ∧ er = 8 ∧ l' = lst n q := by
  have ho := of_lst n q
  rcases h with ⟨h, _⟩ | ⟨_, _, h1, h2, h3⟩ | ⟨_, h, _⟩ | ⟨_, h, _⟩
  · omega
  · exact ⟨h1, h2, h3⟩
  · omega
  · omega
theorem ref_lst {n : Int} (h0 : 1 ≤ n) (h1 : n ≤ 9) (q : Pgs) : refR (lst 1 q) 1 (n - 1) = (n, 0, lst n q) := by
  have e1 : (1 : Int) + (n - 1) = n := by omega
  unfold refR lst
  simp only [alGet, if_true, alSet]
  rw [if_neg (by omega), e1]
  unfold tidyR
  simp only [alGet, if_true]
  rw [if_neg (by simp; omega)]
theorem put_lst {n k : Int} (h0 : 0 ≤ k) (h1 : k < 4096) (q : Pgs) (x : Pg) : putR (lst n q) 1 k x = (0, lst n (alSet q k x)) := by
  unfold putR lst
  simp only [alGet, if_true, alSet]
  rw [if_neg (by omega)]
theorem unref_lst {n : Int} (h0 : 1 ≤ n) (h1 : n ≤ 9) (q : Pgs) : refR (lst n q) 1 (-n) = (0, 0, stP q) := by
  have e1 : n + -n = 0 := by omega
  unfold refR lst
  simp only [alGet, if_true, alSet]
  rw [if_neg (by omega), e1]
  unfold tidyR stP
  simp only [alGet, if_true, true_and, alDel]
  rfl
theorem get_stP (q : Pgs) (k : Int) : getR' (stP q) 1 k = alGet q k := by
  unfold stP
  split
  · rename_i h; subst h; rfl
  · rfl
theorem drop_stP {k : Int} {x : Pg} (r : Pgs) : dropR (stP ((k, x) :: r)) 1 k = (true, stP r) := by
  unfold dropR stP
  rw [if_neg (by simp)]
  unfold lst tidyR
  simp only [alGet, if_true, alSet, alDel, true_and]
theorem drop_no {k : Int} {r : Pgs} (h : alGet r k = none) : dropR (stP r) 1 k = (false, stP r) := by
  by_cases hr : r = []
  · subst hr; rfl
  · have e : stP r = lst 0 r := by unfold stP; rw [if_neg hr]
    rw [e]
    unfold dropR lst
    simp only [alGet, if_true, h]
theorem file_stP {q : Pgs} (h : q ≠ []) : fileR (stP q) 1 = 7 := by
  unfold stP
  rw [if_neg h]
  rfl
set_option maxRecDepth 100000 in
set_option maxHeartbeats 8000000 in
theorem stays_walk (W : World) (refs : Int) (hr : UintOK refs) (A : Option Addr) (N C : Nat) (xs : List Int) (hx : Rd W 1 (.slice A N C) (xs.flatMap uint1)) (hN : N = xs.length) (hg : ∀ x ∈ xs, UintOK x) :
    Calls Try.prog 3 #[.int .u64 refs, .slice A N C] W fun e w' => e = .returned (.bool true) ∧ Fr (fun _ => False) W w' := by
  have HN := Lib.hid hN
  have HG := Lib.hid hg
  clear hN hg
  obtain ⟨hr0, hr1⟩ := hr
  obtain ⟨n, hn, hn1, hn2⟩ : ∃ n, 1 + refs % 9 = n ∧ 1 ≤ n ∧ n ≤ 9 := ⟨1 + refs % 9, rfl, by omega, by omega⟩
  go_enter Try.func3, Try.ntmps3
  go_wp2_with fail
  refine (newH (W := W) (P := fun _ => False) 3 (by omega) (by omega) (Fr.refl _ W) (fun _ h => h.elim)).mono ?_
  rintro e w1 ⟨b, rfl, hH1, -⟩
  by_cases hbig : 60 < N
  · go_wp2_with fail
    refine (lives_any w1).mono ?_
    rintro e w2 ⟨rfl, hf2⟩
    go_wp2
    go_ret
    exact ⟨rfl, hH1.hf.step hf2 (fun _ h => h.elim)⟩
  · have hN3 : N ≤ 60 := by omega
    clear hbig
    have HR := Lib.hid (show ∀ w2, Fr (fun _ => False) W w2 → Rd w2 1 (.slice A N C) (xs.flatMap uint1) from fun w2 hf => hx.of hf (fun _ h => h.elim))
    clear hx
    go_wp2_with fail
    refine (makeH hH1 Emp.steady (fun _ h => h.elim) ⟨by simp, by simp⟩ 7).mono ?_
    rintro e w2 ⟨id, er, l', rfl, hM, hH2, -⟩
    obtain ⟨rfl, rfl, rfl⟩ := make_nil hM (by omega) (by omega)
    clear hM hH1
    change Held _ _ _ (Star (ObX b 3 (lst 1 [])) Emp) at hH2
    go_wp2_with fail
    refine (makeH hH2 Emp.steady (fun _ h => h.elim) (keys_lst _ _) 7).mono ?_
    rintro e w3 ⟨id, er, l', rfl, hM, hH3, -⟩
    obtain ⟨rfl, rfl, rfl⟩ := make_lst hM
    clear hM hH2
    go_wp2_with fail
    try simp only [hn]
    have hrf := refH hH3 Emp.steady (fun _ h => h.elim) 1 (n - 1) (fun o ho => by simp [lst, alGet] at ho; subst ho; simp)
    rw [ref_lst hn1 hn2] at hrf
    refine hrf.mono ?_
    rintro e w4 ⟨rfl, hH4, -⟩
    clear hrf hH3
    have h0 := hH4.repl (T2' := SlT 3 1 (.slice none 0 0) (ints [])) (fun S _ => SlT.nil _ _ _ _)
    clear hH4
    go_wp2_with fail
    go_loopw [64, 13] (fun si sv wr => ∃ (j : Nat) (q : Pgs), j ≤ N ∧ si = .int .i64 j ∧ Held (fun _ => False) W wr (Star (ObX b 3 (lst n q)) (SlT 3 1 sv (ints (q.map (·.1))))) ∧ Hid ((q.map (·.1)).Nodup ∧ q.length ≤ j)) (fun si _ _ => N - (intOf si).toNat)
    case atStart => exact ⟨0, [], by omega, rfl, h0, Lib.hid ⟨by simp, by simp⟩⟩
    case round =>
      obtain ⟨j, q, hjN, rfl, hH, HH⟩ := hrel
      clear h0
      obtain ⟨S0, hS0⟩ := hH.right
      obtain ⟨A2, N2, C2, rfl⟩ := hS0.1.shape
      have hN2 : N2 = q.length := by have := hS0.1.len; simp only [List.length_map, sliceLen] at this; omega
      by_cases hlt : j < N
      · obtain ⟨x, hxj⟩ : ∃ x, xs[j]? = some x := ⟨_, List.getElem?_eq_getElem (by have := HN.out; omega)⟩
        obtain ⟨g, off, n', cap', heq, hgl, c0⟩ := Rd.uint (HR.out wr hH.hf) hxj
        cases heq
        obtain ⟨hx0, hx1⟩ := HG.out x (List.mem_of_getElem? hxj)
        obtain ⟨k, hk, hk0, hk1⟩ : ∃ k, x % 4096 = k ∧ 0 ≤ k ∧ k < 4096 := ⟨x % 4096, rfl, by omega, by omega⟩
        have hpt := putH hH (SlT.steady _ _ _ _) (fun _ h => h.elim) 1 k (k, 0, false)
        rw [put_lst hk0 hk1] at hpt
        have HN2 := Lib.hid hN2
        clear hxj hn hN2
        go_wp2_with fail
        try simp only [hk]
        refine hpt.mono ?_
        rintro e w5 ⟨rfl, hH5, -⟩
        clear hpt c0 hk
        obtain ⟨S5, hS5⟩ := hH5.right
        go_wp2_with fail
        refine (with_any hS5.1 (by rw [List.length_map]; have := HH.out.2; omega) k _ (alSet_keys q k (k, 0, false)).symm).mono ?_
        rintro e w6 ⟨A6, N6, C6, rfl, hs6, ho6, hf6⟩
        obtain ⟨hH6, -⟩ := hH5.slice (ObX.steady _ _ _) (fun _ h => h.elim) hs6 ho6 (hf6.mono' (fun _ h => h.elim))
        have HH6 := Lib.hid (And.intro (alSet_nodup q k (k, 0, false) HH.out.1) (Nat.le_trans (alSet_le q k (k, 0, false)) (Nat.succ_le_succ HH.out.2)))
        clear hH hH5 hS5 hS0 HH
        go_wp2
        go_round
        case rel => exact ⟨j + 1, alSet q k (k, 0, false), by omega, by go_num, hH6, HH6⟩
        case measure => simp [intOf]; omega
      · obtain rfl : j = N := by omega
        have hq60 : q.length ≤ 60 := by have := HH.out.2; omega
        have hrf := refH hH (SlT.steady _ _ _ _) (fun _ h => h.elim) 1 (-n) (fun o ho => by simp [lst, alGet] at ho; subst ho; simp; omega)
        rw [unref_lst hn1 hn2] at hrf
        have hN260 : N2 ≤ 60 := by omega
        have HN2 := Lib.hid hN2
        clear hn hS0 hN2
        go_wp2_with fail
        refine hrf.mono ?_
        rintro e w5 ⟨rfl, hH5, -⟩
        clear hrf hH
        have HQ : Hid (∀ w2, Fr (fun _ => False) w5 w2 → True) := Lib.hid (fun _ _ => trivial)
        clear HQ
        go_wp2_with fail
        go_loopw [98] (fun si wr => ∃ (i : Nat), i ≤ N2 ∧ si = .int .i64 i ∧ Held (fun _ => False) W wr (Star (ObX b 3 (stP (q.drop i))) (SlT 3 1 (.slice A2 N2 C2) (ints (q.map (·.1)))))) (fun si _ => N2 - (intOf si).toNat)
        case atStart => exact ⟨0, by omega, rfl, hH5⟩
        case round =>
          obtain ⟨i, hi, rfl, hH⟩ := hrel
          clear hH5
          by_cases hlt2 : i < N2
          · have hil : i < q.length := by have := HN2.out; omega
            obtain ⟨⟨k, x⟩, hkx⟩ : ∃ p, q[i]? = some p := ⟨_, List.getElem?_eq_getElem hil⟩
            have hdr : q.drop i = (k, x) :: q.drop (i + 1) := by
              rw [List.drop_eq_getElem_cons hil]
              have := List.getElem?_eq_getElem hil
              rw [hkx] at this
              rw [← Option.some.inj this]
            obtain ⟨r, hr⟩ : ∃ r, q.drop (i + 1) = r := ⟨_, rfl⟩
            have hrn : r = [] ↔ i + 1 = N2 := by
              rw [← hr, List.drop_eq_nil_iff, HN2.out]; omega
            have hkr : alGet r k = none := alGet_none_of _ _ (fun hm => by
              have h1 := HH.out.1
              have h2 : (q.drop i).map (·.1) = k :: r.map (·.1) := by rw [hdr, hr]; rfl
              have h3 : ((q.drop i).map (·.1)).Nodup := by rw [List.map_drop]; exact h1.sublist (List.drop_sublist _ _)
              rw [h2] at h3
              exact (List.nodup_cons.1 h3).1 hm)
            rw [hdr, hr] at hH
            have hki : (ints (q.map (·.1)))[i]? = some (.int .i64 k) := by simp [hkx]
            obtain ⟨S0, hS0⟩ := hH.right
            obtain ⟨g, off, n', cap', heq, hgl, hcs, -, -⟩ := hS0.1.form (by intro e; rw [e] at hki; cases hki)
            cases heq
            have c0 := hcs i _ hki
            have HKR := Lib.hid hkr
            have HRN := Lib.hid hrn
            have HDR := Lib.hid hr
            clear hkx hdr hr hrn hkr hki hcs hS0
            obtain ⟨S1, hS1⟩ := hH.left
            have hof := of2_any hS1 (keys_stP _) 7
            rw [of_stP, if_neg (by simp)] at hof
            go_wp2_with fail
            refine hof.mono ?_
            rintro e w6 ⟨rfl, hf6⟩
            have hH6 := hH.keep ((ObX.steady _ _ _).star (SlT.steady _ _ _ _)) hf6
            clear hof hS1 hf6 c0 hH
            obtain ⟨S1, hS1⟩ := hH6.left
            have hfi := file_any hS1 1
            rw [file_stP (by simp)] at hfi
            go_wp2_with fail
            refine hfi.mono ?_
            rintro e w7 ⟨rfl, rfl⟩
            clear hfi hS1
            have hd1 := dropH hH6 (SlT.steady _ _ _ _) (fun _ h => h.elim) 1 k
            rw [drop_stP] at hd1
            go_wp2_with fail
            refine hd1.mono ?_
            rintro e w8 ⟨rfl, hH8, -⟩
            clear hd1 hH6
            have hd2 := dropH hH8 (SlT.steady _ _ _ _) (fun _ h => h.elim) 1 k
            rw [drop_no HKR.out] at hd2
            go_wp2_with fail
            refine hd2.mono ?_
            rintro e w9 ⟨rfl, hH9, -⟩
            clear hd2 hH8
            obtain ⟨S1, hS1⟩ := hH9.left
            have hge := get_any hS1 1 k
            rw [get_stP, HKR.out] at hge
            simp only [Option.getD_none, Option.isSome_none] at hge
            go_wp2_with fail
            refine hge.mono ?_
            rintro e w10 ⟨rfl, hf10⟩
            simp only [pgV]
            have hpg : pgeq 0 0 false 0 0 false = true := by decide
            have hH10 := hH9.keep ((ObX.steady _ _ _).star (SlT.steady _ _ _ _)) (hf10.alloc (.cells #[.int .i64 0, .int .i64 0, .bool false] 34))
            clear hge hS1 hf10 hH9
            obtain ⟨S1, hS1⟩ := hH10.left
            have hof := of2_any hS1 (keys_stP _) 7
            rw [of_stP] at hof
            by_cases hlast : i + 1 = N2
            · rw [if_pos (HRN.out.2 hlast)] at hof
              have hl2 : (i : Int) = (N2 : Int) - 1 := by omega
              go_wp2_with fail
              refine hof.mono ?_
              rintro e w11 ⟨rfl, hf11⟩
              have hH11 := hH10.keep ((ObX.steady _ _ _).star (SlT.steady _ _ _ _)) hf11
              clear hof hS1 hf11 hH10
              go_wp2
              go_round
              case rel => exact ⟨i + 1, by omega, by go_num, by rw [HDR.out]; exact hH11⟩
              case measure => simp [intOf]; omega
            · rw [if_neg (fun h => hlast (HRN.out.1 h))] at hof
              have hl2 : ¬ (i : Int) = (N2 : Int) - 1 := by omega
              go_wp2_with fail
              refine hof.mono ?_
              rintro e w11 ⟨rfl, hf11⟩
              have hH11 := hH10.keep ((ObX.steady _ _ _).star (SlT.steady _ _ _ _)) hf11
              clear hof hS1 hf11 hH10
              go_wp2
              go_round
              case rel => exact ⟨i + 1, by omega, by go_num, by rw [HDR.out]; exact hH11⟩
              case measure => simp [intOf]; omega
          · obtain rfl : i = N2 := by omega
            rw [List.drop_eq_nil_of_le (Nat.le_of_eq HN2.out.symm)] at hH
            change Held _ _ _ (Star (ObX b 3 []) _) at hH
            go_wp2_with fail
            refine (makeH hH (SlT.steady _ _ _ _) (fun _ h => h.elim) ⟨by simp, by simp⟩ 0).mono ?_
            rintro e w6 ⟨id, er, l', rfl, hM, hH6, -⟩
            obtain ⟨rfl, rfl, rfl⟩ := make_nil hM (by omega) (by omega)
            clear hM hH
            obtain ⟨S1, hS1⟩ := hH6.left
            have hof := of2_any hS1 ⟨by simp [wf1], by simp⟩ 7
            rw [ofR_none (fun k hk h => by simp at hk; subst hk; simp [fileR, alGet] at h)] at hof
            go_wp2_with fail
            refine hof.mono ?_
            rintro e w7 ⟨rfl, hf7⟩
            go_wp2_with fail
            refine (lives_any w7).mono ?_
            rintro e w8 ⟨rfl, hf8⟩
            go_wp2
            go_ret
            exact ⟨rfl, (hH6.hf.step hf7 (fun _ h => h.elim)).step hf8 (fun _ h => h.elim)⟩
end Go.Proofs.Ytopfknikmhkaeaa
