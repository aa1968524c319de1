/- entry.Find: by halves, over a right list. Conditions: ends that rise, at most 1000 entries. -/
import Derived.Test.YtopglbkcciigbaaEn
import Derived.Deep.LoopGhost
namespace Go.Proofs.Ytopglbkcciigbaa
open Go.RowKit
set_option linter.unusedSimpArgs false
set_option linter.unusedVariables false
def fidx (l : List Ent) (p : Int) : Nat := (l.takeWhile (fun x => decide (x.e ≤ p))).length
def fok (l : List Ent) (p : Int) : Bool := match l[fidx l p]? with | some x => decide (x.s ≤ p) | none => false
def Ends (l : List Ent) : Prop := ∀ (a b : Nat) x y, a ≤ b → l[a]? = some x → l[b]? = some y → x.e ≤ y.e
theorem fidx_of : ∀ (l : List Ent) (p : Int) (i : Nat), i ≤ l.length → (∀ t x, t < i → l[t]? = some x → x.e ≤ p) → (∀ x, l[i]? = some x → p < x.e) → fidx l p = i
  | [], p, i, h, _, _ => by simp at h; subst h; rfl
  | y :: l, p, 0, h, h1, h2 => by
    have := h2 y rfl
    unfold fidx
    rw [List.takeWhile_cons, if_neg (by simp; omega)]
    rfl
  | y :: l, p, i + 1, h, h1, h2 => by
    have h0 := h1 0 y (by omega) rfl
    have ih := fidx_of l p i (by simpa using h) (fun t x ht hx => h1 (t + 1) x (by omega) (by simpa using hx)) (fun x hx => h2 x (by simpa using hx))
    unfold fidx at ih ⊢
    rw [List.takeWhile_cons, if_pos (by simpa using h0), List.length_cons, ih]
theorem fidx_le (l : List Ent) (p : Int) : fidx l p ≤ l.length := (List.takeWhile_sublist _).length_le
theorem fidx_at (l : List Ent) (p : Int) (x : Ent) (h : l[fidx l p]? = some x) : p < x.e := by
  induction l with
  | nil => simp at h
  | cons y l ih =>
    unfold fidx at h ih
    rw [List.takeWhile_cons] at h
    by_cases hy : y.e ≤ p
    · rw [if_pos (by simpa using hy)] at h
      simp only [List.length_cons, List.getElem?_cons_succ] at h
      exact ih h
    · rw [if_neg (by simpa using hy)] at h
      simp at h; subst h; omega
theorem fidx_below (l : List Ent) (p : Int) (t : Nat) (x : Ent) (ht : t < fidx l p) (h : l[t]? = some x) : x.e ≤ p := by
  induction l generalizing t with
  | nil => simp at h
  | cons y l ih =>
    unfold fidx at ht ih
    rw [List.takeWhile_cons] at ht
    by_cases hy : y.e ≤ p
    · rw [if_pos (by simpa using hy)] at ht
      cases t with
      | zero => simp at h; subst h; exact hy
      | succ t => exact ih t (by simpa using ht) (by simpa using h)
    · rw [if_neg (by simpa using hy)] at ht
      simp at ht
theorem find1_any (x : Ent) (p : Int) (w : World) : Calls Try.prog 40 #[.agg #[.int .i64 x.s, .int .i64 x.e, .int .i64 x.f, .int .i64 x.o, .bool x.sh, .int .i64 x.pr, .int .i64 x.mx, .int .i64 x.inh, .int .i64 x.adv, .bool x.wi], .int .i64 p] w fun e w' => e = .returned (.int .i64 (if x.e ≤ p then -1 else 1)) ∧ Fr (fun _ => False) w w' := by
  go_enter Try.func40, Try.ntmps40
  by_cases h : x.e ≤ p
  · go_wp2
    go_ret
    exact ⟨rfl, (Fr.refl _ _).alloc _⟩
  · go_wp2
    go_ret
    exact ⟨rfl, (Fr.refl _ _).alloc _⟩
set_option maxRecDepth 100000 in
set_option maxHeartbeats 4000000 in
theorem bsf_any {w : World} {A : Option Addr} {N C : Nat} {l : List Ent} (h : Rd w 10 (.slice A N C) (l.flatMap ent)) (hl : l.length ≤ 1000) (he : Ends l) (p : Int) :
    Calls Try.prog 39 #[.slice A N C, .int .i64 p, .func (.func 40) #[] #[]] w fun e w' => e = .returned (.tuple #[.int .i64 (fidx l p), .bool false]) ∧ Fr (fun _ => False) w w' := by
  have hN : N = l.length := h.elen
  have hN5 : N ≤ 1000 := by omega
  have HN := Lib.hid hN
  have HE := Lib.hid he
  clear hN hl he
  obtain ⟨fi, hfi⟩ : ∃ fi, fi = fidx l p := ⟨_, rfl⟩
  have HFI := Lib.hid hfi
  rw [← hfi]
  clear hfi
  go_enter Try.func39, Try.ntmps39
  go_wp2
  go_loopg [9, 10] N (fun kx s9 s10 wr => ∃ lo hi : Nat, s9 = .int .i64 lo ∧ s10 = .int .i64 hi ∧ lo ≤ hi ∧ hi ≤ N ∧ hi - lo ≤ kx ∧ Fr (fun _ => False) w wr ∧
    Aside ((∀ t x, t < lo → l[t]? = some x → x.e ≤ p) ∧ (∀ t x, hi ≤ t → l[t]? = some x → p < x.e)))
  case atStart => exact ⟨0, N, rfl, rfl, Nat.zero_le _, Nat.le_refl _, by omega, Fr.refl _ _, ⟨fun t x ht _ => absurd ht (Nat.not_lt_zero _), fun t x h1 h2 => by have := (List.getElem?_eq_some_iff.1 h2).1; have := HN.out; omega⟩⟩
  case round =>
    obtain ⟨lo, hi, rfl, rfl, hlh, hin, hg, hf, I⟩ := hrel
    have hr := h.of hf (fun _ h => h.elim)
    by_cases hlt : lo < hi
    · obtain ⟨x, hx⟩ : ∃ x, l[(lo + hi) / 2]? = some x := ⟨_, List.getElem?_eq_getElem (by have := HN.out; omega)⟩
      obtain ⟨g, off, n', cap', heq, hgl, -, c0, c1, c2, c3, c4, c5, c6, c7, c8, c9⟩ := hr.entry hx
      cases heq
      have HX := Lib.hid hx
      clear hx hr
      have hc := find1_any x p wr
      by_cases hxp : x.e ≤ p
      · rw [if_pos hxp] at hc
        go_wp2_with fail
        refine hc.mono ?_
        rintro e w' ⟨rfl, hf2⟩
        go_wp2
        go_roundg (hi - ((lo + hi) / 2 + 1))
        case measure => omega
        case rel =>
          exact ⟨(lo + hi) / 2 + 1, hi, by rw [show ((lo : Int) + (hi : Int)) / 2 + 1 = (((lo + hi) / 2 + 1 : Nat) : Int) by omega], rfl, by omega, hin, Nat.le_refl _, hf.also hf2,
            ⟨fun t y ht hy => Int.le_trans (HE.out t ((lo + hi) / 2) y x (by omega) hy HX.out) hxp, I.out.2⟩⟩
      · rw [if_neg hxp] at hc
        go_wp2_with fail
        refine hc.mono ?_
        rintro e w' ⟨rfl, hf2⟩
        go_wp2
        go_roundg ((lo + hi) / 2 - lo)
        case measure => omega
        case rel =>
          exact ⟨lo, (lo + hi) / 2, rfl, by rw [show ((lo : Int) + (hi : Int)) / 2 = (((lo + hi) / 2 : Nat) : Int) by omega], by omega, by omega, Nat.le_refl _, hf.also hf2,
            ⟨I.out.1, fun t y ht hy => by have := HE.out ((lo + hi) / 2) t x y (by omega) HX.out hy; omega⟩⟩
    · obtain rfl : hi = lo := by omega
      obtain rfl : fi = hi := by rw [HFI.out]; exact fidx_of l p hi (by have := HN.out; omega) I.out.1 (fun x hx => I.out.2 hi x (Nat.le_refl _) hx)
      by_cases hn : fi < N
      · obtain ⟨x, hx⟩ : ∃ x, l[fi]? = some x := ⟨_, List.getElem?_eq_getElem (by have := HN.out; omega)⟩
        obtain ⟨g, off, n', cap', heq, hgl, -, c0, c1, c2, c3, c4, c5, c6, c7, c8, c9⟩ := hr.entry hx
        cases heq
        have hxp : ¬ x.e ≤ p := by have := I.out.2 fi x (Nat.le_refl _) hx; omega
        have HX := Lib.hid hx
        clear hx hr
        have hc := find1_any x p wr
        rw [if_neg hxp] at hc
        go_wp2_with fail
        refine hc.mono ?_
        rintro e w' ⟨rfl, hf2⟩
        go_wp2
        go_ret2
        exact ⟨rfl, hf.also hf2⟩
      · go_wp2
        go_ret2
        exact ⟨by simp [hn], hf⟩
set_option maxRecDepth 100000 in
theorem find_any {w : World} {A : Option Addr} {N C : Nat} {l : List Ent} (h : Rd w 10 (.slice A N C) (l.flatMap ent)) (hl : l.length ≤ 1000) (he : Ends l) (p : Int) :
    Calls Try.prog 24 #[.slice A N C, .int .i64 p] w fun e w' => e = .returned (.tuple #[.int .i64 (fidx l p), .bool (fok l p)]) ∧ Fr (fun _ => False) w w' := by
  have hN : N = l.length := h.elen
  have hN5 : N ≤ 1000 := by omega
  have hc := bsf_any h hl he p
  have hfl := fidx_le l p
  obtain ⟨fi, hfi⟩ : ∃ fi, fi = fidx l p := ⟨_, rfl⟩
  have hok : fok l p = match l[fi]? with | some x => decide (x.s ≤ p) | none => false := by rw [hfi]; rfl
  obtain ⟨ok, hok1⟩ : ∃ ok, ok = fok l p := ⟨_, rfl⟩
  rw [← hok1] at hok ⊢
  clear hok1
  rw [← hfi] at hc hfl ⊢
  have HFI := Lib.hid hfi
  have HN := Lib.hid hN
  have HL := Lib.hid hfl
  clear hN hl he hfi hfl
  go_enter Try.func24, Try.ntmps24
  go_wp2_with fail
  refine hc.mono ?_
  rintro e w1 ⟨rfl, hf⟩
  have hr := h.of hf (fun _ h => h.elim)
  by_cases hn : fi < N
  · obtain ⟨x, hx⟩ : ∃ x, l[fi]? = some x := ⟨_, List.getElem?_eq_getElem (by have := HN.out; omega)⟩
    obtain ⟨g, off, n', cap', heq, hgl, -, c0, -⟩ := hr.entry hx
    cases heq
    rw [hx] at hok
    dsimp only at hok
    subst hok
    clear hx hr
    go_wp2_with fail
    refine wp_region_canon [0, 1, 2, 3, 4, 5, 6, 7, 8, 9, 11, 14, 10, 12, 13, 15] (by kernel_rfl) (by kernel_rfl) (fun K hK => ?_)
    simp only [List.map_cons, List.map_nil, List.getD_cons_succ, List.getD_cons_zero]
    go_wp2
    refine hK _ _ (by kernel_rfl) ?_
    clear hK K
    go_wp2
    go_ret2
    exact ⟨rfl, hf.drew⟩
  · have hx : l[fi]? = none := List.getElem?_eq_none (by have := HN.out; omega)
    rw [hx] at hok
    dsimp only at hok
    subst hok
    clear hx hr
    go_wp2_with fail
    refine wp_region_canon [0, 1, 2, 3, 4, 5, 6, 7, 8, 9, 11, 14, 10, 12, 13, 15] (by kernel_rfl) (by kernel_rfl) (fun K hK => ?_)
    simp only [List.map_cons, List.map_nil, List.getD_cons_succ, List.getD_cons_zero]
    go_wp2
    refine hK _ _ (by kernel_rfl) ?_
    clear hK K
    go_wp2
    go_ret2
    exact ⟨rfl, hf.drew⟩
end Go.Proofs.Ytopglbkcciigbaa
