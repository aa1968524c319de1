/- pantryref12.Pool in memory: New, Ids, Sum, Get. Conditions: bounds on lengths. -/
import Derived.Test.YtalinhpdibdlkaaAnPool
import Derived.Test.YtalinhpdibdlkaaRecs
import Derived.Test.YtalinhpdibdlkaaStar
namespace Go.Proofs.Ytalinhpdibdlkaa
open Go.RowKit
set_option linter.unusedSimpArgs false
set_option linter.unusedVariables false
def a3s (a : A3) : List Value := [.int .i64 a.1, .int .i64 a.2.1, .int .i64 a.2.2]
theorem a3s_len (a : A3) : (a3s a).length = 3 := rfl
theorem a3s_one (l : List A3) : ∀ u ∈ l.flatMap a3s, u.oneCell' = true := recs_one (fun x u hu => by
  simp [a3s] at hu
  rcases hu with rfl | rfl | rfl <;> rfl) l
theorem infoRA : (Try.prog.info? 50).map (fun i => (i.zero, i.size, i.bytes)) = some (some (.agg #[.int .i64 0, .int .i64 0, .int .i64 0]), 3, 24) := by kernel_rfl
theorem infoI : (Try.prog.info? 3).map (fun i => (i.zero, i.size, i.bytes)) = some (some (.int .i64 0), 1, 8) := by kernel_rfl
theorem info_of' {e : TypeId} {z : Value} {s b : Nat} (h : (Try.prog.info? e).map (fun i => (i.zero, i.size, i.bytes)) = some (some z, s, b)) : ∃ i, Try.prog.info? e = some i ∧ i.zero = some z ∧ i.size = s ∧ i.bytes = b := by
  cases hi : Try.prog.info? e with
  | none => rw [hi] at h; cases h
  | some i =>
    rw [hi] at h
    simp only [Option.map_some, Option.some.injEq, Prod.mk.injEq] at h
    exact ⟨i, rfl, h.1, h.2.1, h.2.2⟩
/-- The document's pool. -/
structure RP (w : World) (b : Nat) (most : Int) (v : Value) (L : List A3) : Prop where
  blk : ob w b = some (.cells #[.int .i64 most, v] 71 (0, 0))
  row : Sl w 50 3 v (L.flatMap a3s)
def RPX (b : Nat) (most : Int) (L : List A3) : Thing := fun w S => ∃ v, RP w b most v L ∧ S b ∧ ∀ k, v.ownBlock = some k → S k
section
variable {w w1 : World} {b : Nat} {most : Int} {v : Value} {L : List A3} {S : Nat → Prop}
theorem RP.fr (h : RP w b most v L) (hf : Fr S w w1) (hb : ¬ S b) (hn : ∀ k, v.ownBlock = some k → ¬ S k) : RP w1 b most v L := ⟨hf.keep hb h.blk, Sl.fr h.row hf hn⟩
theorem RP.keep (h : RP w b most v L) (hf : Fr (fun _ => False) w w1) : RP w1 b most v L := h.fr hf (fun h => h) (fun _ _ h => h)
theorem RP.bk (h : RP w b most v L) : v.ownBlock ≠ some b := fun e => by
  rcases h.row with ⟨rfl, _⟩ | ⟨g, off, n, cap, row, rfl, ho, _⟩
  · cases e
  · cases e
    have := ho.symm.trans h.blk
    simp at this
theorem RPX.steady : Steady (RPX b most L) where
  fr := fun ⟨v, h, hb, hs⟩ hf hn => ⟨v, h.fr hf (hn b hb (ob_lt h.blk)) (fun k hk => hn k (hs k hk) (Sl.lt h.row hk)), hb, hs⟩
  cut := fun ⟨v, h, hb, hs⟩ => ⟨v, h, ⟨hb, ob_lt h.blk⟩, fun k hk => ⟨hs k hk, Sl.lt h.row hk⟩⟩
  wide := fun ⟨v, h, hb, hs⟩ hw => ⟨v, h, hw b hb, fun k hk => hw k (hs k hk)⟩
end
theorem rnew_no (n : Int) (hn : n < 0 ∨ 4096 < n) (w : World) : Calls Try.prog 17 #[.int .i64 n] w fun e w' => e = .returned (.pointer none) ∧ w' = w := by
  rcases hn with h | h
  · go_enter Try.func17, Try.ntmps17
    go_wp2
    go_ret
    exact ⟨rfl, rfl⟩
  · have h2 : ¬ n < 0 := by omega
    have h3 : 0 ≤ n := by omega
    go_enter Try.func17, Try.ntmps17
    go_wp2
    go_ret
    exact ⟨rfl, rfl⟩
theorem new_no (n : Int) (hn : n < 0 ∨ 4096 < n) (w : World) : Calls Try.prog 9 #[.int .i64 n] w fun e w' => e = .returned (.pointer none) ∧ w' = w := by
  rcases hn with h | h
  · go_enter Try.func9, Try.ntmps9
    go_wp2
    go_ret
    exact ⟨rfl, rfl⟩
  · have h2 : ¬ n < 0 := by omega
    have h3 : 0 ≤ n := by omega
    go_enter Try.func9, Try.ntmps9
    go_wp2
    go_ret
    exact ⟨rfl, rfl⟩
theorem rnew_any (n : Int) (h0 : 0 ≤ n) (h1 : n ≤ 4096) (w : World) :
    Calls Try.prog 17 #[.int .i64 n] w fun e w' => ∃ b, e = .returned (.pointer (some ⟨b, 0, none⟩)) ∧ RPX b n [] w' (fun k => w.heap.size ≤ k) ∧ Fr (fun _ => False) w w' := by
  go_enter Try.func17, Try.ntmps17
  go_wp2
  go_ret
  exact ⟨_, rfl, ⟨_, ⟨ob_new _ _, Sl.nil _ _ _⟩, Nat.le_refl _, fun k hk => by cases hk⟩, (Fr.refl _ w).alloc _⟩
/-- Those that are held, by their numbers. -/
def ridsF (n : Nat) : List A3 → List Int
  | [] => []
  | a :: L => if 0 < a.1 then ((n : Int) + 1) :: ridsF (n + 1) L else ridsF (n + 1) L
def rids (L : List A3) : List Int := ridsF 0 L
theorem ridsF_append : ∀ (A B : List A3) (n : Nat), ridsF n (A ++ B) = ridsF n A ++ ridsF (n + A.length) B
  | [], B, n => by simp [ridsF]
  | a :: A, B, n => by
    simp only [List.cons_append, ridsF, List.length_cons]
    rw [ridsF_append A B (n + 1), show n + (A.length + 1) = n + 1 + A.length by omega]
    split <;> simp
theorem rids_snoc {L : List A3} {j : Nat} {a : A3} (h : L[j]? = some a) : rids (L.take (j + 1)) = rids (L.take j) ++ if 0 < a.1 then [(j : Int) + 1] else [] := by
  unfold rids
  rw [List.take_add_one, h, Option.toList_some, ridsF_append]
  have : (L.take j).length = j := by rw [List.length_take]; have := (List.getElem?_eq_some_iff.1 h).1; omega
  rw [this, Nat.zero_add]
  simp [ridsF]
theorem ridsF_len : ∀ (L : List A3) (n : Nat), (ridsF n L).length ≤ L.length
  | [], n => by simp [ridsF]
  | a :: L, n => by
    have := ridsF_len L (n + 1)
    simp only [ridsF]
    split <;> simp <;> omega
/-- All references. -/
def rsum : List A3 → Int
  | [] => 0
  | a :: L => a.1 + rsum L
theorem rsum_append : ∀ A B : List A3, rsum (A ++ B) = rsum A + rsum B
  | [], B => by simp [rsum]
  | a :: A, B => by simp only [List.cons_append, rsum, rsum_append A B]; omega
theorem rsum_bound : ∀ {L : List A3}, (∀ a ∈ L, 0 ≤ a.1 ∧ a.1 ≤ 1000000) → 0 ≤ rsum L ∧ rsum L ≤ L.length * 1000000
  | [], _ => by simp [rsum]
  | a :: L, h => by
    have h1 := h a (by simp)
    have h2 := rsum_bound (L := L) (fun b hb => h b (by simp [hb]))
    simp only [rsum, List.length_cons]; omega
section
variable {w : World} {b : Nat} {most : Int} {v : Value} {L : List A3}
set_option maxRecDepth 100000 in
set_option maxHeartbeats 2000000 in
theorem rids_any (h : RP w b most v L) (hl : L.length ≤ 5000) :
    Calls Try.prog 24 #[.pointer (some ⟨b, 0, none⟩)] w fun e w' => ∃ A N C, e = .returned (.slice A N C) ∧ Sl w' 3 1 (.slice A N C) (ints (rids L)) ∧ (∀ k, (Value.slice A N C).ownBlock = some k → w.heap.size ≤ k) ∧ Fr (fun _ => False) w w' := by
  obtain ⟨A, N, C, rfl⟩ := h.row.shape
  have hN := Sl.recN a3s_len (by omega) h.row
  have c1 : w.cell? ⟨b, 1, none⟩ = some (.slice A N C) := cell_of_ob h.blk 1
  have hb := ob_lt h.blk
  have HN := Lib.hid hN
  have hN5 : N ≤ 5000 := by omega
  obtain ⟨i0, hi, hz, hsz, hby⟩ := info_of' infoI
  clear hN hl
  go_enter Try.func24, Try.ntmps24
  go_wp2_with fail
  go_loopw [3, 11] (fun sl si wr => ∃ (t : Nat), t ≤ N ∧ si = .int .i64 t ∧ Sl wr 3 1 sl (ints (rids (L.take t))) ∧ Hid (Fr (fun _ => False) w wr ∧ ∀ k, sl.ownBlock = some k → w.heap.size ≤ k)) (fun _ si _ => N - (intOf si).toNat)
  case atStart => exact ⟨0, by omega, rfl, Sl.nil _ _ _, Lib.hid ⟨Fr.refl _ _, fun k hk => (by cases hk)⟩⟩
  case round =>
    obtain ⟨t, ht, rfl, hsl, HI⟩ := hrel
    by_cases hlt : t < N
    · obtain ⟨a, ha⟩ : ∃ a, L[t]? = some a := ⟨_, List.getElem?_eq_getElem (by have := HN.out; omega)⟩
      obtain ⟨g, off, n', cap', heq, hgl, -, hcs⟩ := Sl.recAt a3s_len (by omega) (Sl.fr h.row HI.out.1 (fun _ _ h => h)) ha
      cases heq
      obtain ⟨r, f, s⟩ := a
      have d0 : wr.cell? ⟨g, off + t * 3, none⟩ = some (.int .i64 r) := hcs 0 _ rfl
      have d1 : wr.cell? ⟨g, off + t * 3 + 1, none⟩ = some (.int .i64 f) := hcs 1 _ rfl
      have d2 : wr.cell? ⟨g, off + t * 3 + 2, none⟩ = some (.int .i64 s) := hcs 2 _ rfl
      have HX := Lib.hid (rids_snoc ha)
      have hlr : (rids (L.take t)).length ≤ 5000 := by have := ridsF_len (L.take t) 0; rw [List.length_take] at this; unfold rids; omega
      clear hcs ha
      obtain ⟨A2, N2, C2, rfl⟩ := hsl.shape
      have hN2 : N2 ≤ 5000 := by have := hsl.len; simp only [List.length_map, sliceLen] at this; omega
      by_cases hr : 0 < r
      · have HX2 : Hid (rids (L.take (t + 1)) = rids (L.take t) ++ [(t : Int) + 1]) := Lib.hid (by rw [HX.out, if_pos hr])
        go_wp2_with (at_builtin; go_must (refine wpList_app (v := .slice A2 N2 C2) rfl _ _ _ rfl Try.underlying57 hi hz hsz hby rfl (by decide) rfl ((hsl.alloc _).alloc _) (wr.heap.size + 1) 1 1 [.int .i64 ((t : Int) + 1)] rfl (ob_newAt _ _ _ (by simp)) rfl (by simp [Value.oneCell']) (by decide) (by simp only [maxLen, sliceLen]; omega) (by simp only [sliceLen]; omega) ?_; intro v2 w5 hs5 hf5 ho5 hl5; obtain ⟨A5, N5, C5, rfl⟩ := hs5.shape))
        go_roundw
        case rel =>
          refine ⟨t + 1, by omega, by go_num, ?_, Lib.hid ⟨((HI.out.1.alloc _).alloc _).step hf5 (fun k hk => .inr (HI.out.2 k hk)), fun k hk => ?_⟩⟩
          · rw [HX2.out]
            have e : ints (rids (L.take t) ++ [(t : Int) + 1]) = ints (rids (L.take t)) ++ [.int .i64 ((t : Int) + 1)] := by simp
            rw [e]; exact hs5
          · rcases ho5 with h1 | ⟨q, h1, h2⟩
            · rw [h1] at hk; exact HI.out.2 k hk
            · rw [h1] at hk; cases hk; have := HI.out.1.size; simp at h2; omega
        case measure => simp [intOf]; omega
      · have HX2 : Hid (rids (L.take (t + 1)) = rids (L.take t)) := Lib.hid (by rw [HX.out, if_neg hr, List.append_nil])
        go_wp2
        go_roundw
        case rel => exact ⟨t + 1, by omega, by go_num, by rw [HX2.out]; exact hsl.alloc _, Lib.hid ⟨HI.out.1.alloc _, HI.out.2⟩⟩
        case measure => simp [intOf]; omega
    · obtain rfl : t = N := by omega
      have hall : L.take t = L := by rw [HN.out, List.take_length]
      rw [hall] at hsl
      clear hall
      obtain ⟨A5, N5, C5, rfl⟩ := hsl.shape
      go_wp2
      go_ret
      exact ⟨_, _, _, rfl, hsl, HI.out.2, HI.out.1⟩
set_option maxRecDepth 100000 in
theorem rsum_any (h : RP w b most v L) (hl : L.length ≤ 5000) (hr : ∀ a ∈ L, 0 ≤ a.1 ∧ a.1 ≤ 1000000) :
    Calls Try.prog 25 #[.pointer (some ⟨b, 0, none⟩)] w fun e w' => e = .returned (.int .i64 (rsum L)) ∧ Fr (fun _ => False) w w' := by
  obtain ⟨S, hS⟩ : ∃ S, rsum L = S := ⟨_, rfl⟩
  rw [hS]
  have HS := Lib.hid hS
  have HR := Lib.hid hr
  obtain ⟨A, N, C, rfl⟩ := h.row.shape
  have hN := Sl.recN a3s_len (by omega) h.row
  have c1 : w.cell? ⟨b, 1, none⟩ = some (.slice A N C) := cell_of_ob h.blk 1
  have hb := ob_lt h.blk
  have HN := Lib.hid hN
  have hN5 : N ≤ 5000 := by omega
  clear hN hl hS hr
  go_enter Try.func25, Try.ntmps25
  go_wp2_with fail
  go_loopw [3, 11] (fun sn si wr => ∃ (t : Nat), t ≤ N ∧ si = .int .i64 t ∧ sn = .int .i64 (rsum (L.take t)) ∧ Fr (fun _ => False) w wr) (fun _ si _ => N - (intOf si).toNat)
  case atStart => exact ⟨0, by omega, rfl, rfl, Fr.refl _ _⟩
  case round =>
    obtain ⟨t, ht, rfl, rfl, hf⟩ := hrel
    have hbd := rsum_bound (L := L.take t) (fun a ha => HR.out a (List.mem_of_mem_take ha))
    have hlt5 : (L.take t).length ≤ 5000 := by rw [List.length_take]; omega
    obtain ⟨q, hq⟩ : ∃ q, rsum (L.take t) = q := ⟨_, rfl⟩
    rw [hq] at hbd
    have HQ := Lib.hid hq
    have hq0 := hbd.1
    have hq1 : q ≤ 5000000000 := by have := hbd.2; omega
    simp only [hq]
    clear hbd hlt5 hq
    by_cases hlt : t < N
    · obtain ⟨a, ha⟩ : ∃ a, L[t]? = some a := ⟨_, List.getElem?_eq_getElem (by have := HN.out; omega)⟩
      obtain ⟨g, off, n', cap', heq, hgl, -, hcs⟩ := Sl.recAt a3s_len (by omega) (Sl.fr h.row hf (fun _ _ h => h)) ha
      cases heq
      have hra := HR.out a (List.mem_of_getElem? ha)
      obtain ⟨r, f, s⟩ := a
      have d0 : wr.cell? ⟨g, off + t * 3, none⟩ = some (.int .i64 r) := hcs 0 _ rfl
      have d1 : wr.cell? ⟨g, off + t * 3 + 1, none⟩ = some (.int .i64 f) := hcs 1 _ rfl
      have d2 : wr.cell? ⟨g, off + t * 3 + 2, none⟩ = some (.int .i64 s) := hcs 2 _ rfl
      have HA := Lib.hid ha
      dsimp only at hra
      have hr0 := hra.1
      have hr1 := hra.2
      have hf2 := hf.alloc (.cells #[.int .i64 r, .int .i64 f, .int .i64 s] 50)
      have HF2 := Lib.hid hf2
      clear hcs ha hra hf2 hf
      go_wp2
      go_roundw
      case rel =>
        refine ⟨t + 1, by omega, by go_num, ?_, HF2.out⟩
        rw [List.take_add_one, HA.out, Option.toList_some, rsum_append, HQ.out]
        simp only [rsum]
        go_num
      case measure => simp [intOf]; omega
    · obtain rfl : t = N := by omega
      have e1 : S = q := by rw [← HS.out, ← HQ.out, HN.out, List.take_length]
      have E1 := Lib.hid e1
      clear e1
      go_wp2
      go_ret
      exact ⟨ret_i64 E1.out.symm, hf⟩
/-- One that is held. -/
def rget (L : List A3) (id : Int) : Option A3 := if 1 ≤ id then (L[(id - 1).toNat]?).bind (fun a => if a.1 = 0 then none else some a) else none
set_option maxRecDepth 100000 in
set_option maxHeartbeats 2000000 in
theorem rget_any (h : RP w b most v L) (hl : L.length ≤ 5000) (id : Int) :
    Calls Try.prog 21 #[.pointer (some ⟨b, 0, none⟩), .int .i64 id] w fun e w' => e = .returned (.tuple #[.agg (a3s ((rget L id).getD (0, 0, 0))).toArray, .bool (rget L id).isSome]) ∧ Fr (fun _ => False) w w' := by
  obtain ⟨A, N, C, rfl⟩ := h.row.shape
  have hN := Sl.recN a3s_len (by omega) h.row
  have c1 : w.cell? ⟨b, 1, none⟩ = some (.slice A N C) := cell_of_ob h.blk 1
  have hb := ob_lt h.blk
  have hf1 : Fr (fun _ => False) w (w.alloc (.cells #[.int .i64 0, .int .i64 0, .int .i64 0] 50)) := (Fr.refl _ w).alloc _
  have HN := Lib.hid hN
  have hN5 : N ≤ 5000 := by omega
  by_cases h1 : id < 1
  · have hg : rget L id = none := by unfold rget; rw [if_neg (by omega)]
    rw [hg]
    clear hN hl hg
    go_enter Try.func21, Try.ntmps21
    go_wp2
    exact bodyPost_ret (v := .tuple #[.agg #[.int .i64 0, .int .i64 0, .int .i64 0], .bool false]) (by simp [results, Try.results21, go_sem]) rfl ⟨rfl, hf1⟩
  · by_cases h2 : (N : Int) < id
    · have hg : rget L id = none := by unfold rget; rw [if_pos (by omega), List.getElem?_eq_none (by omega)]; rfl
      rw [hg]
      have h1b : decide (id < 1) = false := by simp; omega
      clear hN hl hg
      go_enter Try.func21, Try.ntmps21
      go_wp2
      exact bodyPost_ret (v := .tuple #[.agg #[.int .i64 0, .int .i64 0, .int .i64 0], .bool false]) (by simp [results, Try.results21, go_sem]) rfl ⟨rfl, hf1⟩
    · obtain ⟨j, rfl⟩ : ∃ j : Nat, id = (j : Int) + 1 := ⟨(id - 1).toNat, by omega⟩
      obtain ⟨a, ha⟩ : ∃ a, L[j]? = some a := ⟨_, List.getElem?_eq_getElem (by omega)⟩
      obtain ⟨g, off, n', cap', heq, hgl, -, hcs⟩ := Sl.recAt a3s_len (by omega) h.row ha
      cases heq
      obtain ⟨r, f, s⟩ := a
      have d0 : w.cell? ⟨g, off + j * 3, none⟩ = some (.int .i64 r) := hcs 0 _ rfl
      have d1 : w.cell? ⟨g, off + j * 3 + 1, none⟩ = some (.int .i64 f) := hcs 1 _ rfl
      have d2 : w.cell? ⟨g, off + j * 3 + 2, none⟩ = some (.int .i64 s) := hcs 2 _ rfl
      have hg : rget L ((j : Int) + 1) = if r = 0 then none else some (r, f, s) := by
        unfold rget
        rw [if_pos (by omega), show ((j : Int) + 1 - 1).toNat = j by omega, ha]
        rfl
      have h1b : decide ((j : Int) + 1 < 1) = false := by simp; omega
      have h2b : decide ((N : Int) < (j : Int) + 1) = false := by simp; omega
      have hjN : j < N := by omega
      rw [hg]
      clear hN hl hg hcs ha h1 h2
      by_cases hr : r = 0
      · subst hr
        rw [if_pos rfl]
        go_enter Try.func21, Try.ntmps21
        go_wp2
        exact bodyPost_ret (v := .tuple #[.agg #[.int .i64 0, .int .i64 0, .int .i64 0], .bool false]) (by simp [results, Try.results21, go_sem]) rfl ⟨rfl, hf1⟩
      · rw [if_neg hr]
        have hrb : (r == 0) = false := by simp [hr]
        clear hr
        go_enter Try.func21, Try.ntmps21
        go_wp2
        exact bodyPost_ret (v := .tuple #[.agg #[.int .i64 r, .int .i64 f, .int .i64 s], .bool true]) (by simp [results, Try.results21, go_sem]) rfl ⟨rfl, (Fr.refl _ w).alloc _⟩
end
end Go.Proofs.Ytalinhpdibdlkaa
