/- vmap.Map: the closures of its calls; slices.IndexFunc and ContainsFunc over them; a field of an entry in a row is set. Conditions: at most 1000 entries. -/
import Derived.Test.YtopglbkcciigbaaVmB
import Derived.Test.YtopglbkcciigbaaEnInsN
namespace Go.Proofs.Ytopglbkcciigbaa
open Go.RowKit
set_option linter.unusedSimpArgs false
set_option linter.unusedVariables false
attribute [local go_sem] Oper.semAt_some
theorem SE.setAt {w : World} {g off n cap : Nat} {l : List Ent} (h : SE w (.slice (some ⟨g, off, none⟩) n cap) l) {i : Nat} {x y : Ent} (hx : l[i]? = some x) (c : Nat) (hc : c < 10) (u : Value) (hy : ent y = (ent x).set c u) :
    SE (w.setCell ⟨g, off + i * 10 + c, none⟩ u) (.slice (some ⟨g, off, none⟩) n cap) (l.set i y) := by
  have hi := (List.getElem?_eq_some_iff.1 hx).1
  have hex : (ent x).length = 10 := rfl
  have := Sl.put h (i * 10 + c) [u] (by rw [len_ents]; simp; omega)
  simp only [World.setCells] at this
  rw [← Nat.add_assoc] at this
  have e1 : (l.set i y).flatMap ent = (l.flatMap ent).take (i * 10 + c) ++ [u] ++ (l.flatMap ent).drop (i * 10 + c + 1) := by
    have e2 : l = l.take i ++ x :: l.drop (i + 1) := by
      have hx2 := (List.getElem?_eq_some_iff.1 hx).2
      rw [← hx2]; simp
    have e3 : l.set i y = l.take i ++ y :: l.drop (i + 1) := by rw [List.set_eq_take_append_cons_drop, if_pos hi]
    have hlt : ((l.take i).flatMap ent).length = i * 10 := by rw [len_ents, List.length_take]; omega
    rw [e3]
    conv => rhs; rw [e2]
    simp only [List.flatMap_append, List.flatMap_cons]
    rw [List.take_append, List.drop_append, hlt]
    have t1 : ((l.take i).flatMap ent).take (i * 10 + c) = (l.take i).flatMap ent := List.take_of_length_le (by omega)
    have t2 : ((l.take i).flatMap ent).drop (i * 10 + c + 1) = [] := List.drop_of_length_le (by omega)
    rw [t1, t2, show i * 10 + c - i * 10 = c by omega, show i * 10 + c + 1 - i * 10 = c + 1 by omega, hy, List.set_eq_take_append_cons_drop, if_pos (by omega), List.take_append, List.drop_append, hex, show c - 10 = 0 by omega, show c + 1 - 10 = 0 by omega]
    simp
  unfold SE
  rw [e1]
  exact this
/-- The first t are changed. -/
def upTo (f : Ent → Ent) (ms : List Ent) (t : Nat) : List Ent := (ms.take t).map f ++ ms.drop t
theorem upTo_get {f : Ent → Ent} {ms : List Ent} {t : Nat} {x : Ent} (hx : ms[t]? = some x) : (upTo f ms t)[t]? = some x ∧ (upTo f ms t).set t (f x) = upTo f ms (t + 1) := by
  have ht := (List.getElem?_eq_some_iff.1 hx).1
  have hl : ((ms.take t).map f).length = t := by rw [List.length_map, List.length_take]; omega
  have hd : ms.drop t = x :: ms.drop (t + 1) := ent_drop hx
  unfold upTo
  refine ⟨?_, ?_⟩
  · rw [List.getElem?_append_right (by omega), hl, hd]; simp
  · rw [List.set_append_right _ _ (by omega), hl, hd, Nat.sub_self, List.set_cons_zero, List.take_add_one, hx]
    simp
theorem upTo_len (f : Ent → Ent) (ms : List Ent) (t : Nat) : (upTo f ms t).length = ms.length := by
  unfold upTo; simp; omega
theorem any_any (b : Nat) (x : Ent) (w : World) : Calls Try.prog 29 #[.pointer (some ⟨b, 0, none⟩), .agg #[.int .i64 x.s, .int .i64 x.e, .int .i64 x.f, .int .i64 x.o, .bool x.sh, .int .i64 x.pr, .int .i64 x.mx, .int .i64 x.inh, .int .i64 x.adv, .bool x.wi]] w fun e w' => e = .returned (.bool true) ∧ Fr (fun _ => False) w w' := by
  go_enter Try.func29, Try.ntmps29
  go_wp2
  go_ret
  exact ⟨rfl, (Fr.refl _ _).alloc _⟩
theorem may_any (p : Int) (bp : Nat) (x : Ent) {w : World} (hp : ob w bp = some (.cells #[.int .i64 p] 3 (0, 0))) : Calls Try.prog 33 #[.agg #[.int .i64 x.s, .int .i64 x.e, .int .i64 x.f, .int .i64 x.o, .bool x.sh, .int .i64 x.pr, .int .i64 x.mx, .int .i64 x.inh, .int .i64 x.adv, .bool x.wi], .pointer (some ⟨bp, 0, none⟩)] w fun e w' => e = .returned (.bool (mayP p x)) ∧ Fr (fun _ => False) w w' := by
  have c0 : w.cell? ⟨bp, 0, none⟩ = some (.int .i64 p) := cell_of_ob hp 0
  have s0 := ob_lt hp
  obtain ⟨q, hq⟩ : ∃ q, mayP p x = q := ⟨_, rfl⟩
  rw [hq]
  have HQ := Lib.hid hq
  by_cases h : bits .andNot .i64 p x.mx = 0
  · clear hq
    go_enter Try.func33, Try.ntmps33
    go_wp2
    go_ret
    exact ⟨by rw [← HQ.out, show mayP p x = true from decide_eq_true h]; rfl, (Fr.refl _ _).alloc _⟩
  · clear hq
    go_enter Try.func33, Try.ntmps33
    go_wp2
    go_ret
    exact ⟨by rw [← HQ.out, show mayP p x = false from decide_eq_false h]; simp; exact h, (Fr.refl _ _).alloc _⟩
theorem all1Y (b : Nat) (bm : Nat) (x : Ent) {w : World} (hm : ob w bm = some (.cells #[.func (.func 29) #[.pointer (some ⟨b, 0, none⟩)] #[]] 61 (0, 0))) : Calls Try.prog 44 #[.agg #[.int .i64 x.s, .int .i64 x.e, .int .i64 x.f, .int .i64 x.o, .bool x.sh, .int .i64 x.pr, .int .i64 x.mx, .int .i64 x.inh, .int .i64 x.adv, .bool x.wi], .pointer (some ⟨bm, 0, none⟩)] w fun e w' => e = .returned (.bool (!anyE x)) ∧ Fr (fun _ => False) w w' := by
  have c0 := cell_of_ob hm 0
  have s0 := ob_lt hm
  have hf0 : Fr (fun _ => False) w (w.alloc (.cells #[.int .i64 x.s, .int .i64 x.e, .int .i64 x.f, .int .i64 x.o, .bool x.sh, .int .i64 x.pr, .int .i64 x.mx, .int .i64 x.inh, .int .i64 x.adv, .bool x.wi] 28)) := (Fr.refl _ _).alloc _
  have hc := any_any b x (w.alloc (.cells #[.int .i64 x.s, .int .i64 x.e, .int .i64 x.f, .int .i64 x.o, .bool x.sh, .int .i64 x.pr, .int .i64 x.mx, .int .i64 x.inh, .int .i64 x.adv, .bool x.wi] 28))
  have HF0 := Lib.hid hf0
  clear hm hf0
  go_enter Try.func44, Try.ntmps44
  go_wp2_with fail
  refine hc.mono ?_
  rintro e w1 ⟨rfl, hf⟩
  have HF := Lib.hid (Fr.also HF0.out hf)
  clear hc hf
  go_wp2
  go_ret
  exact ⟨rfl, HF.out⟩
set_option maxRecDepth 100000 in
theorem idxY (b : Nat) (bm : Nat) {w : World} (hm : ob w bm = some (.cells #[.func (.func 29) #[.pointer (some ⟨b, 0, none⟩)] #[]] 61 (0, 0))) {A : Option Addr} {N C : Nat} {l : List Ent} (hs : SE w (.slice A N C) l) (hl : l.length ≤ 1000) :
    Calls Try.prog 50 #[.slice A N C, .func (.func 44) #[] #[.pointer (some ⟨bm, 0, none⟩)]] w fun e w' => ∃ r : Int, e = .returned (.int .i64 r) ∧ (decide (0 ≤ r) = !l.all anyE) ∧ Fr (fun _ => False) w w' := by
  have hN : N = l.length := SE.elen hs
  have hN5 : N ≤ 1000 := by omega
  have HN := Lib.hid hN
  have HALL := Lib.hid (show ∀ wr, Fr (fun _ => False) w wr → ∀ x, Calls Try.prog 44 #[.agg #[.int .i64 x.s, .int .i64 x.e, .int .i64 x.f, .int .i64 x.o, .bool x.sh, .int .i64 x.pr, .int .i64 x.mx, .int .i64 x.inh, .int .i64 x.adv, .bool x.wi], .pointer (some ⟨bm, 0, none⟩)] wr fun e w' => e = .returned (.bool (!anyE x)) ∧ Fr (fun _ => False) wr w' from fun wr hf x => all1Y b bm x (hf.keep (fun h => h) hm))
  clear hN hm hl
  go_enter Try.func50, Try.ntmps50
  go_wp2_with fail
  go_loopw [8] (fun si wr => ∃ t : Nat, t ≤ N ∧ si = .int .i64 t ∧ Hid ((l.take t).all anyE = true) ∧ Hid (Fr (fun _ => False) w wr)) (fun si _ => N - (intOf si).toNat)
  case atStart => exact ⟨0, Nat.zero_le _, rfl, Lib.hid (by simp), Lib.hid (Fr.refl _ _)⟩
  case round =>
    obtain ⟨t, ht, rfl, HT, HF⟩ := hrel
    by_cases hlt : t < N
    · obtain ⟨x, hx⟩ : ∃ x, l[t]? = some x := ⟨_, List.getElem?_eq_getElem (by have := HN.out; omega)⟩
      obtain ⟨g, off, n', cap', heq, hgl, -, -, hat⟩ := SE.entry (Sl.fr hs HF.out (fun _ _ h => h)) hx
      cases heq
      obtain ⟨d0, d1, d2, d3, d4, d5, d6, d7, d8, d9⟩ := hat
      have hc := HALL.out wr HF.out x
      have HX := Lib.hid hx
      have HST := Lib.hid (show (l.take (t + 1)).all anyE = ((l.take t).all anyE && anyE x) by rw [List.take_add_one, hx]; simp)
      obtain ⟨q, hq⟩ : ∃ q, anyE x = q := ⟨_, rfl⟩
      rw [hq] at hc
      have HQ := Lib.hid hq
      clear hx hq
      cases q with
      | true =>
        go_wp2_with fail
        refine hc.mono ?_
        rintro e w1 ⟨rfl, hf⟩
        have HF1 := Lib.hid (Fr.also HF.out hf)
        clear hc hf d0 d1 d2 d3 d4 d5 d6 d7 d8 d9
        go_wp2
        go_roundw
        case rel => exact ⟨t + 1, by omega, by go_num, Lib.hid (by rw [HST.out, HT.out, HQ.out]; rfl), HF1⟩
        case measure => simp [intOf]; omega
      | false =>
        go_wp2_with fail
        refine hc.mono ?_
        rintro e w1 ⟨rfl, hf⟩
        have HF1 := Lib.hid (Fr.also HF.out hf)
        clear hc hf d0 d1 d2 d3 d4 d5 d6 d7 d8 d9
        go_wp2
        go_ret
        refine ⟨_, rfl, ?_, HF1.out⟩
        have h1 : l.all anyE = false := by
          rw [List.all_eq_false]
          exact ⟨x, List.mem_of_getElem? HX.out, by rw [HQ.out]; simp⟩
        rw [h1]
        simp
    · obtain rfl : t = N := by omega
      go_wp2
      go_ret
      refine ⟨_, rfl, ?_, HF.out⟩
      have h1 := HT.out
      rw [HN.out, List.take_length] at h1
      rw [h1]
      decide
theorem conY (b : Nat) (bm : Nat) {w : World} (hm : ob w bm = some (.cells #[.func (.func 29) #[.pointer (some ⟨b, 0, none⟩)] #[]] 61 (0, 0))) {A : Option Addr} {N C : Nat} {l : List Ent} (hs : SE w (.slice A N C) l) (hl : l.length ≤ 1000) :
    Calls Try.prog 43 #[.slice A N C, .func (.func 44) #[] #[.pointer (some ⟨bm, 0, none⟩)]] w fun e w' => e = .returned (.bool (!l.all anyE)) ∧ Fr (fun _ => False) w w' := by
  have hi := idxY b bm hm hs hl
  go_enter Try.func43, Try.ntmps43
  go_wp2_with fail
  refine hi.mono ?_
  rintro e w1 ⟨r, rfl, hr, hf⟩
  have HR := Lib.hid hr
  have HF := Lib.hid hf
  clear hi hr hf hm hs
  go_wp2
  go_ret
  exact ⟨by rw [← HR.out]; rfl, HF.out⟩
theorem all1P (p : Int) (bp : Nat) (bm : Nat) (x : Ent) {w : World} (hm : ob w bm = some (.cells #[.func (.func 33) #[] #[.pointer (some ⟨bp, 0, none⟩)]] 61 (0, 0))) (hp : ob w bp = some (.cells #[.int .i64 p] 3 (0, 0))) : Calls Try.prog 44 #[.agg #[.int .i64 x.s, .int .i64 x.e, .int .i64 x.f, .int .i64 x.o, .bool x.sh, .int .i64 x.pr, .int .i64 x.mx, .int .i64 x.inh, .int .i64 x.adv, .bool x.wi], .pointer (some ⟨bm, 0, none⟩)] w fun e w' => e = .returned (.bool (!(mayP p) x)) ∧ Fr (fun _ => False) w w' := by
  have c0 := cell_of_ob hm 0
  have s0 := ob_lt hm
  have hf0 : Fr (fun _ => False) w (w.alloc (.cells #[.int .i64 x.s, .int .i64 x.e, .int .i64 x.f, .int .i64 x.o, .bool x.sh, .int .i64 x.pr, .int .i64 x.mx, .int .i64 x.inh, .int .i64 x.adv, .bool x.wi] 28)) := (Fr.refl _ _).alloc _
  have hc := may_any p bp x (hf0.keep (fun h => h) hp)
  have HF0 := Lib.hid hf0
  clear hm hp hf0
  go_enter Try.func44, Try.ntmps44
  go_wp2_with fail
  refine hc.mono ?_
  rintro e w1 ⟨rfl, hf⟩
  have HF := Lib.hid (Fr.also HF0.out hf)
  clear hc hf
  go_wp2
  go_ret
  exact ⟨rfl, HF.out⟩
set_option maxRecDepth 100000 in
theorem idxP (p : Int) (bp : Nat) (bm : Nat) {w : World} (hm : ob w bm = some (.cells #[.func (.func 33) #[] #[.pointer (some ⟨bp, 0, none⟩)]] 61 (0, 0))) (hp : ob w bp = some (.cells #[.int .i64 p] 3 (0, 0))) {A : Option Addr} {N C : Nat} {l : List Ent} (hs : SE w (.slice A N C) l) (hl : l.length ≤ 1000) :
    Calls Try.prog 50 #[.slice A N C, .func (.func 44) #[] #[.pointer (some ⟨bm, 0, none⟩)]] w fun e w' => ∃ r : Int, e = .returned (.int .i64 r) ∧ (decide (0 ≤ r) = !l.all (mayP p)) ∧ Fr (fun _ => False) w w' := by
  have hN : N = l.length := SE.elen hs
  have hN5 : N ≤ 1000 := by omega
  have HN := Lib.hid hN
  have HALL := Lib.hid (show ∀ wr, Fr (fun _ => False) w wr → ∀ x, Calls Try.prog 44 #[.agg #[.int .i64 x.s, .int .i64 x.e, .int .i64 x.f, .int .i64 x.o, .bool x.sh, .int .i64 x.pr, .int .i64 x.mx, .int .i64 x.inh, .int .i64 x.adv, .bool x.wi], .pointer (some ⟨bm, 0, none⟩)] wr fun e w' => e = .returned (.bool (!(mayP p) x)) ∧ Fr (fun _ => False) wr w' from fun wr hf x => all1P p bp bm x (hf.keep (fun h => h) hm) (hf.keep (fun h => h) hp))
  clear hN hm hp hl
  go_enter Try.func50, Try.ntmps50
  go_wp2_with fail
  go_loopw [8] (fun si wr => ∃ t : Nat, t ≤ N ∧ si = .int .i64 t ∧ Hid ((l.take t).all (mayP p) = true) ∧ Hid (Fr (fun _ => False) w wr)) (fun si _ => N - (intOf si).toNat)
  case atStart => exact ⟨0, Nat.zero_le _, rfl, Lib.hid (by simp), Lib.hid (Fr.refl _ _)⟩
  case round =>
    obtain ⟨t, ht, rfl, HT, HF⟩ := hrel
    by_cases hlt : t < N
    · obtain ⟨x, hx⟩ : ∃ x, l[t]? = some x := ⟨_, List.getElem?_eq_getElem (by have := HN.out; omega)⟩
      obtain ⟨g, off, n', cap', heq, hgl, -, -, hat⟩ := SE.entry (Sl.fr hs HF.out (fun _ _ h => h)) hx
      cases heq
      obtain ⟨d0, d1, d2, d3, d4, d5, d6, d7, d8, d9⟩ := hat
      have hc := HALL.out wr HF.out x
      have HX := Lib.hid hx
      have HST := Lib.hid (show (l.take (t + 1)).all (mayP p) = ((l.take t).all (mayP p) && (mayP p) x) by rw [List.take_add_one, hx]; simp)
      obtain ⟨q, hq⟩ : ∃ q, (mayP p) x = q := ⟨_, rfl⟩
      rw [hq] at hc
      have HQ := Lib.hid hq
      clear hx hq
      cases q with
      | true =>
        go_wp2_with fail
        refine hc.mono ?_
        rintro e w1 ⟨rfl, hf⟩
        have HF1 := Lib.hid (Fr.also HF.out hf)
        clear hc hf d0 d1 d2 d3 d4 d5 d6 d7 d8 d9
        go_wp2
        go_roundw
        case rel => exact ⟨t + 1, by omega, by go_num, Lib.hid (by rw [HST.out, HT.out, HQ.out]; rfl), HF1⟩
        case measure => simp [intOf]; omega
      | false =>
        go_wp2_with fail
        refine hc.mono ?_
        rintro e w1 ⟨rfl, hf⟩
        have HF1 := Lib.hid (Fr.also HF.out hf)
        clear hc hf d0 d1 d2 d3 d4 d5 d6 d7 d8 d9
        go_wp2
        go_ret
        refine ⟨_, rfl, ?_, HF1.out⟩
        have h1 : l.all (mayP p) = false := by
          rw [List.all_eq_false]
          exact ⟨x, List.mem_of_getElem? HX.out, by rw [HQ.out]; simp⟩
        rw [h1]
        simp
    · obtain rfl : t = N := by omega
      go_wp2
      go_ret
      refine ⟨_, rfl, ?_, HF.out⟩
      have h1 := HT.out
      rw [HN.out, List.take_length] at h1
      rw [h1]
      decide
theorem conP (p : Int) (bp : Nat) (bm : Nat) {w : World} (hm : ob w bm = some (.cells #[.func (.func 33) #[] #[.pointer (some ⟨bp, 0, none⟩)]] 61 (0, 0))) (hp : ob w bp = some (.cells #[.int .i64 p] 3 (0, 0))) {A : Option Addr} {N C : Nat} {l : List Ent} (hs : SE w (.slice A N C) l) (hl : l.length ≤ 1000) :
    Calls Try.prog 43 #[.slice A N C, .func (.func 44) #[] #[.pointer (some ⟨bm, 0, none⟩)]] w fun e w' => e = .returned (.bool (!l.all (mayP p))) ∧ Fr (fun _ => False) w w' := by
  have hi := idxP p bp bm hm hp hs hl
  go_enter Try.func43, Try.ntmps43
  go_wp2_with fail
  refine hi.mono ?_
  rintro e w1 ⟨r, rfl, hr, hf⟩
  have HR := Lib.hid hr
  have HF := Lib.hid hf
  clear hi hr hf hm hp hs
  go_wp2
  go_ret
  exact ⟨by rw [← HR.out]; rfl, HF.out⟩
theorem doProtect {p : Int} {bp g o : Nat} {w : World} (hp : ob w bp = some (.cells #[.int .i64 p] 3 (0, 0))) {u : Value} (hu : w.cell? ⟨g, o + 5, none⟩ = some u) (hz : w.frozen? ⟨g, o + 5, none⟩ = false) :
    Calls Try.prog 34 #[.pointer (some ⟨g, o, none⟩), .pointer (some ⟨bp, 0, none⟩)] w fun e w' => (∃ v, e = .returned v) ∧ w' = w.setCell ⟨g, o + 5, none⟩ (.int .i64 p) := by
  have c0 := cell_of_ob hp 0
  go_enter Try.func34, Try.ntmps34
  go_wp2
  go_end0
  exact ⟨⟨_, rfl⟩, rfl⟩
theorem doInherit {p : Int} {bp g o : Nat} {w : World} (hp : ob w bp = some (.cells #[.int .i64 p] 3 (0, 0))) {u : Value} (hu : w.cell? ⟨g, o + 7, none⟩ = some u) (hz : w.frozen? ⟨g, o + 7, none⟩ = false) :
    Calls Try.prog 30 #[.pointer (some ⟨g, o, none⟩), .pointer (some ⟨bp, 0, none⟩)] w fun e w' => (∃ v, e = .returned v) ∧ w' = w.setCell ⟨g, o + 7, none⟩ (.int .i64 p) := by
  have c0 := cell_of_ob hp 0
  go_enter Try.func30, Try.ntmps30
  go_wp2
  go_end0
  exact ⟨⟨_, rfl⟩, rfl⟩
theorem doAdvise {p : Int} {bp g o : Nat} {w : World} (hp : ob w bp = some (.cells #[.int .i64 p] 3 (0, 0))) {u : Value} (hu : w.cell? ⟨g, o + 8, none⟩ = some u) (hz : w.frozen? ⟨g, o + 8, none⟩ = false) :
    Calls Try.prog 31 #[.pointer (some ⟨g, o, none⟩), .pointer (some ⟨bp, 0, none⟩)] w fun e w' => (∃ v, e = .returned v) ∧ w' = w.setCell ⟨g, o + 8, none⟩ (.int .i64 p) := by
  have c0 := cell_of_ob hp 0
  go_enter Try.func31, Try.ntmps31
  go_wp2
  go_end0
  exact ⟨⟨_, rfl⟩, rfl⟩
theorem doWire {p : Bool} {bp g o : Nat} {w : World} (hp : ob w bp = some (.cells #[.bool p] 4 (0, 0))) {u : Value} (hu : w.cell? ⟨g, o + 9, none⟩ = some u) (hz : w.frozen? ⟨g, o + 9, none⟩ = false) :
    Calls Try.prog 32 #[.pointer (some ⟨g, o, none⟩), .pointer (some ⟨bp, 0, none⟩)] w fun e w' => (∃ v, e = .returned v) ∧ w' = w.setCell ⟨g, o + 9, none⟩ (.bool p) := by
  have c0 := cell_of_ob hp 0
  go_enter Try.func32, Try.ntmps32
  go_wp2
  go_end0
  exact ⟨⟨_, rfl⟩, rfl⟩
end Go.Proofs.Ytopglbkcciigbaa
