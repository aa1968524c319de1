/- object.Pool: File, Ref, Get, Put, Drop. Conditions: references between 0 and 1000000. -/
import Derived.Test.YtopfknikmhkaeaaObA
namespace Go.Proofs.Ytopfknikmhkaeaa
open Go.RowKit
set_option linter.unusedSimpArgs false
set_option linter.unusedVariables false
attribute [local go_sem] Oper.semAt_some
section
variable {w w1 : World} {b m : Nat} {most : Int} {L : List (Int × Ent)} {l : List (Int × Obt)} {S : Nat → Prop} {k : Int} {e e' : Ent}
theorem ptrL_set (L : List (Int × Ent)) (k : Int) (e : Ent) : ptrL (alSet L k e) = alSet (ptrL L) k (some e.1) := alSet_snd (fun e : Ent => some e.1) L k e
theorem outL_set (L : List (Int × Ent)) (k : Int) (e : Ent) : outL (alSet L k e) = alSet (outL L) k e.2.2 := alSet_snd (fun e : Ent => e.2.2) L k e
theorem outL_del (L : List (Int × Ent)) (k : Int) : outL (alDel L k) = alDel (outL L) k := alDel_snd (fun e : Ent => e.2.2) L k
/-- One object is another one now, in the same blocks. -/
theorem OT.set (h : OT w b m most L) (he : alGet L k = some e) (h1 : e'.1 = e.1) (h2 : e'.2.1 = e.2.1) (ho : OneT w1 e') (hf : Fr (fun q => q = e.1 ∨ q = e.2.1) w w1) : OT w1 b m most (alSet L k e') := by
  have hp : ptrL (alSet L k e') = ptrL L := by
    rw [ptrL_set, alSet_same]
    unfold ptrL
    rw [alGet_snd (fun e : Ent => some e.1), he, h1]; rfl
  refine ⟨hf.keep (fun hq => hq.elim (fun hq => h.oneb he hq.symm) (fun hq => h.pgb he hq.symm)) h.blk, ?_, fun x e2 hx => ?_, fun k1 k2 e1 e2 hx hy hq => ?_, fun x e2 hx => ?_, alSet_nodup _ _ _ h.nodup⟩
  · rw [hp]
    exact h.all.of (hf.block m h.all.lt (fun hq => hq.elim (fun hq => h.onem he hq.symm) (fun hq => h.mne k e he hq.symm)))
  · rw [alGet_set] at hx
    split at hx
    · cases hx; exact ho
    · rename_i hne
      exact (h.one x e2 hx).fr hf (fun hq => hq.elim (fun hq => hne (h.inj _ _ _ _ hx he (.inl hq))) (fun hq => h.onepg hx he hq)) (fun hq => hq.elim (fun hq => h.onepg he hx hq.symm) (fun hq => hne (h.inj _ _ _ _ hx he (.inr hq))))
  · rw [alGet_set] at hx hy
    split at hx <;> split at hy
    · rename_i a b; rw [a, b]
    · rename_i a b; cases hx; rw [a]; exact h.inj _ _ _ _ he hy (by rw [← h1, ← h2]; exact hq)
    · rename_i a b; cases hy; rw [b]; exact h.inj _ _ _ _ hx he (by rw [← h1, ← h2]; exact hq)
    · exact h.inj _ _ _ _ hx hy hq
  · rw [alGet_set] at hx
    split at hx
    · cases hx; rw [h2]; exact h.mne _ _ he
    · exact h.mne _ _ hx
theorem objS_set (he : alGet L k = some e) (h1 : e'.1 = e.1) (h2 : e'.2.1 = e.2.1) {q : Nat} (hq : objS b m (alSet L k e') q) : objS b m L q := by
  rcases hq with hq | hq | ⟨x, e2, hx, hq⟩
  · exact .inl hq
  · exact .inr (.inl hq)
  · rw [alGet_set] at hx
    split at hx
    · cases hx; rw [h1, h2] at hq; exact .inr (.inr ⟨k, e, he, hq⟩)
    · exact .inr (.inr ⟨x, e2, hx, hq⟩)
theorem objS_del (hn : (L.map (·.1)).Nodup) {q : Nat} (hq : objS b m (alDel L k) q) : objS b m L q := by
  rcases hq with hq | hq | ⟨x, e2, hx, hq⟩
  · exact .inl hq
  · exact .inr (.inl hq)
  · rw [alGet_del _ _ _ hn] at hx
    split at hx
    · cases hx
    · exact .inr (.inr ⟨x, e2, hx, hq⟩)
theorem objS_tidy (hn : (L.map (·.1)).Nodup) {q : Nat} (hq : objS b m (tidyL L k) q) : objS b m L q := by
  unfold tidyL at hq
  split at hq
  · exact hq
  · split at hq
    · exact objS_del hn hq
    · exact hq
/-- The objects that a pool has, in memory. -/
def ObX (b : Nat) (most : Int) (l : List (Int × Obt)) : Thing := fun w S => ∃ m L, OT w b m most L ∧ outL L = l ∧ ∀ q, objS b m L q → S q
theorem ObX.steady (b : Nat) (most : Int) (l : List (Int × Obt)) : Steady (ObX b most l) where
  fr := fun ⟨m, L, h1, h2, h3⟩ hf hn => ⟨m, L, h1.fr hf (fun q hq => hn q (h3 q hq) (h1.slt hq)), h2, h3⟩
  cut := fun ⟨m, L, h1, h2, h3⟩ => ⟨m, L, h1, h2, fun q hq => ⟨h3 q hq, h1.slt hq⟩⟩
  wide := fun ⟨m, L, h1, h2, h3⟩ hs => ⟨m, L, h1, h2, fun q hq => hs q (h3 q hq)⟩
theorem ObX.lt (h : ObX b most l w S) : b < w.heap.size := let ⟨_, _, h, _⟩ := h; h.lt
def tidyR (l : List (Int × Obt)) (k : Int) : List (Int × Obt) :=
  match alGet l k with
  | none => l
  | some o => if o.2.1 = 0 ∧ o.2.2 = [] then alDel l k else l
theorem outL_tidy (L : List (Int × Ent)) (k : Int) : outL (tidyL L k) = tidyR (outL L) k := by
  unfold tidyL tidyR
  rw [get_outL]
  cases alGet L k with
  | none => rfl
  | some e =>
    simp only [Option.map_some]
    split
    · exact outL_del L k
    · rfl
def putR (l : List (Int × Obt)) (id ix : Int) (x : Pg) : Int × List (Int × Obt) :=
  match alGet l id with
  | none => (7, l)
  | some o => if ix < 0 ∨ 4096 ≤ ix then (2, l) else (0, alSet l id (o.1, o.2.1, alSet o.2.2 ix x))
def refR (l : List (Int × Obt)) (id x : Int) : Int × Int × List (Int × Obt) :=
  match alGet l id with
  | none => (0, 7, l)
  | some o => if x < -o.2.1 ∨ 1000000 - o.2.1 < x then (0, 2, l) else (o.2.1 + x, 0, tidyR (alSet l id (o.1, o.2.1 + x, o.2.2)) id)
def getR' (l : List (Int × Obt)) (id ix : Int) : Option Pg := (alGet l id).bind fun o => alGet o.2.2 ix
def dropR (l : List (Int × Obt)) (id ix : Int) : Bool × List (Int × Obt) :=
  match alGet l id with
  | none => (false, l)
  | some o => match alGet o.2.2 ix with
    | none => (false, l)
    | some _ => (true, tidyR (alSet l id (o.1, o.2.1, alDel o.2.2 ix)) id)
def fileR (l : List (Int × Obt)) (id : Int) : Int := ((alGet l id).map (·.1)).getD 0
theorem file_any (h : ObX b most l w S) (id : Int) : Calls Try.prog 15 #[.pointer (some ⟨b, 0, none⟩), .int .i64 id] w fun e w' => e = .returned (.int .i64 (fileR l id)) ∧ w = w' := by
  obtain ⟨m, L, h, rfl, hS⟩ := h
  unfold fileR
  rw [get_outL]
  rcases he : alGet L id with _ | ⟨q, pm, f, n, pgs⟩
  · have hof := of_any h id none (by rw [he]; rfl)
    clear he
    simp only [Option.map_none, Option.getD_none]
    go_enter Try.func15, Try.ntmps15
    go_wp2_with fail
    refine hof.mono ?_
    rintro e w1 ⟨rfl, rfl⟩
    simp only [ptrV, Option.map_none]
    go_wp2
    go_ret
    exact ⟨rfl, rfl⟩
  · obtain ⟨hq, hpm⟩ := h.one id _ he
    dsimp only at hq hpm
    have hql := ob_lt hq
    have d0 : w.cell? ⟨q, 0, none⟩ = some (.int .i64 f) := cell_of_ob hq 0
    have hof := of_any h id (some q) (by rw [he]; rfl)
    clear he
    simp only [Option.map_some, Option.getD_some]
    go_enter Try.func15, Try.ntmps15
    go_wp2_with fail
    refine hof.mono ?_
    rintro e w1 ⟨rfl, rfl⟩
    simp only [ptrV, Option.map_some]
    go_wp2
    go_ret
    exact ⟨rfl, rfl⟩
set_option maxRecDepth 100000 in
set_option maxHeartbeats 2000000 in
theorem get_any (h : ObX b most l w S) (id ix : Int) : Calls Try.prog 17 #[.pointer (some ⟨b, 0, none⟩), .int .i64 id, .int .i64 ix] w fun e w' =>
      e = .returned (.tuple #[pgV ((getR' l id ix).getD (0, 0, false)), .bool (getR' l id ix).isSome]) ∧ Fr (fun _ => False) w w' := by
  obtain ⟨m, L, h, rfl, hS⟩ := h
  have hfr0 : Fr (fun _ => False) w (w.alloc (.cells #[.int .i64 0, .int .i64 0, .bool false] 34)) := (Fr.refl _ _).alloc _
  have h0 := h.keep hfr0
  unfold getR'
  rw [get_outL]
  rcases he : alGet L id with _ | ⟨q, pm, f, n, pgs⟩
  · have hof := of_any h0 id none (by rw [he]; rfl)
    clear he
    simp only [Option.map_none, Option.bind_none, Option.getD_none, Option.isSome_none]
    go_enter Try.func17, Try.ntmps17
    go_wp2_with fail
    refine hof.mono ?_
    rintro e w1 ⟨rfl, rfl⟩
    simp only [ptrV, Option.map_none]
    go_wp2_with fail
    refine bodyPost_ret (v := .tuple #[pgV (0, 0, false), .bool false]) (by simp [results, Try.results17, go_sem, pgV]) rfl ⟨rfl, ?_⟩
    exact hfr0
  · obtain ⟨hq, hpm⟩ := h0.one id _ he
    dsimp only at hq hpm
    have hql := ob_lt hq
    have d2 := cell_of_ob hq 2
    have hof := of_any h0 id (some q) (by rw [he]; rfl)
    clear he
    simp only [Option.map_some, Option.bind_some]
    obtain ⟨r, hr⟩ : ∃ r, r = (alGet pgs ix).getD (0, 0, false) := ⟨_, rfl⟩
    obtain ⟨ok, hok⟩ : ∃ ok, ok = (alGet pgs ix).isSome := ⟨_, rfl⟩
    rw [← hr, ← hok]
    have Hr := Lib.hid hr
    have Hok := Lib.hid hok
    clear hr hok
    go_enter Try.func17, Try.ntmps17
    go_wp2_with fail
    refine hof.mono ?_
    rintro e w1 ⟨rfl, rfl⟩
    simp only [ptrV, Option.map_some]
    have e2 : (#[Value.int .i64 f, .int .i64 n, .map (some pm)] : Array Value)[2]? = some (.map (some pm)) := rfl
    rw [e2] at d2
    go_wp2_with (at_lookup; go_must (refine wpList_look2 rfl _ _ _ rfl rfl ix rfl key_ik Try.underlying72 (0, 0, false) zeroPg (hpm.of rfl) r ok Hr.out.symm Hok.out.symm ?_; simp only [pgV]))
    refine bodyPost_ret (v := .tuple #[pgV r, .bool ok]) (by simp [results, Try.results17, go_sem, pgV]) rfl ⟨rfl, ?_⟩
    exact ((Fr.refl _ _).alloc _).alloc _
set_option maxRecDepth 100000 in
set_option maxHeartbeats 2000000 in
theorem put_any (h : ObX b most l w S) (id ix : Int) (x : Pg) : Calls Try.prog 12 #[.pointer (some ⟨b, 0, none⟩), .int .i64 id, .int .i64 ix, pgV x] w fun e w' =>
      e = .returned (.int .i64 (putR l id ix x).1) ∧ ObX b most (putR l id ix x).2 w' S ∧ Fr S w w' := by
  obtain ⟨m, L, h, rfl, hS⟩ := h
  obtain ⟨x1, x2, x3⟩ := x
  have hfr0 : Fr S w (w.alloc (.cells #[.int .i64 x1, .int .i64 x2, .bool x3] 34)) := (Fr.refl _ _).alloc _
  have h0 := h.keep ((Fr.refl _ w).alloc (.cells #[.int .i64 x1, .int .i64 x2, .bool x3] 34))
  unfold putR
  rw [get_outL]
  simp only [pgV]
  rcases he : alGet L id with _ | ⟨q, pm, f, n, pgs⟩
  · have hof := of_any h0 id none (by rw [he]; rfl)
    clear he
    simp only [Option.map_none]
    go_enter Try.func12, Try.ntmps12
    go_wp2_with fail
    refine (made_any h0).mono ?_
    rintro e w1 ⟨rfl, rfl⟩
    go_wp2_with fail
    refine hof.mono ?_
    rintro e w1 ⟨rfl, rfl⟩
    simp only [ptrV, Option.map_none]
    go_wp2
    go_ret
    exact ⟨rfl, ⟨m, L, h0, rfl, hS⟩, hfr0⟩
  · obtain ⟨hq, hpm⟩ := h0.one id _ he
    dsimp only at hq hpm
    have hql := ob_lt hq
    have d2 := cell_of_ob hq 2
    have e2 : (#[Value.int .i64 f, .int .i64 n, .map (some pm)] : Array Value)[2]? = some (.map (some pm)) := rfl
    rw [e2] at d2
    have hof := of_any h0 id (some q) (by rw [he]; rfl)
    have HE := Lib.hid he
    clear he e2
    simp only [Option.map_some]
    by_cases h1 : ix < 0
    · rw [if_pos (.inl h1)]
      go_enter Try.func12, Try.ntmps12
      go_wp2_with fail
      refine (made_any h0).mono ?_
      rintro e w1 ⟨rfl, rfl⟩
      go_wp2_with fail
      refine hof.mono ?_
      rintro e w1 ⟨rfl, rfl⟩
      simp only [ptrV, Option.map_some]
      go_wp2
      go_ret
      exact ⟨rfl, ⟨m, L, h0, rfl, hS⟩, hfr0⟩
    · by_cases h2 : 4096 ≤ ix
      · rw [if_pos (.inr h2)]
        go_enter Try.func12, Try.ntmps12
        go_wp2_with fail
        refine (made_any h0).mono ?_
        rintro e w1 ⟨rfl, rfl⟩
        go_wp2_with fail
        refine hof.mono ?_
        rintro e w1 ⟨rfl, rfl⟩
        simp only [ptrV, Option.map_some]
        go_wp2
        go_ret
        exact ⟨rfl, ⟨m, L, h0, rfl, hS⟩, hfr0⟩
      · rw [if_neg (by omega)]
        go_enter Try.func12, Try.ntmps12
        go_wp2_with fail
        refine (made_any h0).mono ?_
        rintro e w1 ⟨rfl, rfl⟩
        go_wp2_with fail
        refine hof.mono ?_
        rintro e w1 ⟨rfl, rfl⟩
        simp only [ptrV, Option.map_some]
        go_wp2_with fail
        refine wp_region_canon [0, 1, 2, 4, 3, 5, 6] (by kernel_rfl) (by kernel_rfl) (fun K hK => ?_)
        simp only [List.map_cons, List.map_nil, List.getD_cons_succ, List.getD_cons_zero]
        go_wp2_with (at_mapUpdate; go_must (refine wpList_upd rfl _ _ _ _ rfl rfl ix rfl ((x1, x2, x3) : Pg) rfl key_ik Try.underlying72 (hpm.of rfl) ?_; intro o2 hm2))
        refine hK _ _ (by kernel_rfl) ?_
        clear hK K
        go_wp2
        go_ret
        have hq1 := (h0.onepg HE.out HE.out)
        have hpb : objS b m L pm := .inr (.inr ⟨id, _, HE.out, .inr rfl⟩)
        refine ⟨rfl, ⟨m, alSet L id (q, pm, f, n, alSet pgs ix (x1, x2, x3)), h0.set HE.out rfl rfl ⟨(ob_putOb_ne _ _ _ _ hq1).trans hq, hm2⟩ (((Fr.refl _ _).drew).putOb _ _ (.inl (.inr rfl))), outL_set _ _ _, fun k hk => hS k (objS_set (e' := (q, pm, f, n, alSet pgs ix (x1, x2, x3))) HE.out rfl rfl hk)⟩, (hfr0.drew).putOb _ _ (.inl (hS _ hpb))⟩
set_option maxRecDepth 100000 in
set_option maxHeartbeats 2000000 in
theorem ref_any (h : ObX b most l w S) (id x : Int) (hr : ∀ o, alGet l id = some o → 0 ≤ o.2.1 ∧ o.2.1 ≤ 1000000) : Calls Try.prog 11 #[.pointer (some ⟨b, 0, none⟩), .int .i64 id, .int .i64 x] w fun e w' =>
      e = .returned (.tuple #[.int .i64 (refR l id x).1, .int .i64 (refR l id x).2.1]) ∧ ObX b most (refR l id x).2.2 w' S ∧ Fr S w w' := by
  obtain ⟨m, L, h, rfl, hS⟩ := h
  unfold refR
  rw [get_outL] at hr ⊢
  rcases he : alGet L id with _ | ⟨q, pm, f, n, pgs⟩
  · have hof := of_any h id none (by rw [he]; rfl)
    clear he hr
    simp only [Option.map_none]
    go_enter Try.func11, Try.ntmps11
    go_wp2_with fail
    refine (made_any h).mono ?_
    rintro e w1 ⟨rfl, rfl⟩
    go_wp2_with fail
    refine hof.mono ?_
    rintro e w1 ⟨rfl, rfl⟩
    simp only [ptrV, Option.map_none]
    go_wp2
    refine bodyPost_ret (v := .tuple #[.int .i64 0, .int .i64 7]) (by simp [results, Try.results11, go_sem]) rfl ⟨rfl, ⟨m, L, h, rfl, hS⟩, Fr.refl _ _⟩
  · obtain ⟨hq, hpm⟩ := h.one id _ he
    dsimp only at hq hpm
    have hql := ob_lt hq
    have d1 : w.cell? ⟨q, 1, none⟩ = some (.int .i64 n) := cell_of_ob hq 1
    have f1 : w.frozen? ⟨q, 1, none⟩ = false := frozen_of_ob hq 1
    have hof := of_any h id (some q) (by rw [he]; rfl)
    obtain ⟨hn0, hn1⟩ : 0 ≤ n ∧ n ≤ 1000000 := hr (f, n, pgs) (by rw [he]; rfl)
    have HE := Lib.hid he
    clear he hr
    simp only [Option.map_some]
    by_cases h1 : x < -n
    · rw [if_pos (.inl h1)]
      go_enter Try.func11, Try.ntmps11
      go_wp2_with fail
      refine (made_any h).mono ?_
      rintro e w1 ⟨rfl, rfl⟩
      go_wp2_with fail
      refine hof.mono ?_
      rintro e w1 ⟨rfl, rfl⟩
      simp only [ptrV, Option.map_some]
      go_wp2
      refine bodyPost_ret (v := .tuple #[.int .i64 0, .int .i64 2]) (by simp [results, Try.results11, go_sem]) rfl ⟨rfl, ⟨m, L, h, rfl, hS⟩, Fr.refl _ _⟩
    · by_cases h2 : 1000000 - n < x
      · rw [if_pos (.inr h2)]
        go_enter Try.func11, Try.ntmps11
        go_wp2_with fail
        refine (made_any h).mono ?_
        rintro e w1 ⟨rfl, rfl⟩
        go_wp2_with fail
        refine hof.mono ?_
        rintro e w1 ⟨rfl, rfl⟩
        simp only [ptrV, Option.map_some]
        go_wp2
        refine bodyPost_ret (v := .tuple #[.int .i64 0, .int .i64 2]) (by simp [results, Try.results11, go_sem]) rfl ⟨rfl, ⟨m, L, h, rfl, hS⟩, Fr.refl _ _⟩
      · rw [if_neg (by omega)]
        have hX := h.set (e' := (q, pm, f, n + x, pgs)) (w1 := w.setCell ⟨q, 1, none⟩ (.int .i64 (n + x))) HE.out rfl rfl ⟨ob_setCell_same hq _, hpm.of (ob_setCell _ _ _ _ (h.onepg HE.out HE.out).symm)⟩ ((Fr.refl _ _).setCell _ _ (.inl (.inl rfl)))
        have hq2 : ob (w.setCell ⟨q, 1, none⟩ (.int .i64 (n + x))) q = some (.cells #[.int .i64 f, .int .i64 (n + x), .map (some pm)] 74 (0, 0)) := ob_setCell_same hq _
        go_enter Try.func11, Try.ntmps11
        go_wp2_with fail
        refine (made_any h).mono ?_
        rintro e w1 ⟨rfl, rfl⟩
        go_wp2_with fail
        refine hof.mono ?_
        rintro e w1 ⟨rfl, rfl⟩
        simp only [ptrV, Option.map_some]
        go_wp2_with fail
        refine (tidy_any hX id).mono ?_
        rintro e w3 ⟨rfl, hX3, hf3⟩
        have hq3 := hf3.keep (h.onem HE.out) hq2
        have hql3 := ob_lt hq3
        have d3 : w3.cell? ⟨q, 1, none⟩ = some (.int .i64 (n + x)) := cell_of_ob hq3 1
        clear d1 f1
        go_wp2
        refine bodyPost_ret (v := .tuple #[.int .i64 (n + x), .int .i64 0]) (by simp [results, Try.results11, go_sem]) rfl ⟨rfl, ⟨m, _, hX3, ?_, fun k hk => hS k (objS_set (e' := (q, pm, f, n + x, pgs)) HE.out rfl rfl (objS_tidy hX.nodup hk))⟩, ?_⟩
        · rw [outL_tidy, outL_set]
        · exact ((Fr.refl S w).setCell ⟨q, 1, none⟩ _ (.inl (hS _ (.inr (.inr ⟨id, _, HE.out, .inl rfl⟩))))).step hf3 (fun k hk => .inl (by rw [hk]; exact hS _ (.inr (.inl rfl))))
end
end Go.Proofs.Ytopfknikmhkaeaa
