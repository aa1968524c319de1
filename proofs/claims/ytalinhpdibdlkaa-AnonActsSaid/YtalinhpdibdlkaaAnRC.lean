/- pantryref12.Pool: Make. Conditions: bounds on lengths. -/
import Derived.Test.YtalinhpdibdlkaaAnRB
import Derived.Deep.RegionHeld3
namespace Go.Proofs.Ytalinhpdibdlkaa
open Go.RowKit
set_option linter.unusedSimpArgs false
set_option linter.unusedVariables false
/-- What a Make of the document's gives: a number, an error, the anons. -/
def rmakeO (f most : Int) (L : List A3) : Int × Int × List A3 :=
  if most ≤ ((rids L).length : Int) then (0, 5, L) else match L.findIdx? (fun a => a.1 == 0) with
    | some i => ((i : Int) + 1, 0, L.set i (1, f, -1))
    | none => ((L.length : Int) + 1, 0, L ++ [(1, f, -1)])
theorem find_first {L : List A3} {t : Nat} {a : A3} (h : L[t]? = some a) (ha : a.1 = 0) (hn : ∀ (i : Nat) b, i < t → L[i]? = some b → b.1 ≠ 0) : L.findIdx? (fun a => a.1 == 0) = some t := by
  have ht := (List.getElem?_eq_some_iff.1 h).1
  rw [List.findIdx?_eq_some_iff_getElem]
  refine ⟨ht, ?_, fun i hi => ?_⟩
  · have : L[t] = a := (List.getElem?_eq_some_iff.1 h).2
    rw [this]; simp [ha]
  · have := hn i _ hi (List.getElem?_eq_getElem (by omega))
    simpa using this
theorem find_none {L : List A3} (hn : ∀ (i : Nat) b, L[i]? = some b → b.1 ≠ 0) : L.findIdx? (fun a => a.1 == 0) = none := by
  rw [List.findIdx?_eq_none_iff]
  intro a ha
  obtain ⟨i, hi⟩ := List.mem_iff_getElem?.1 ha
  have := hn i a hi
  simpa using this
theorem ret2_i64 {a b c d : Int} (h : a = c) (k : b = d) : Ending.returned (.tuple #[.int .i64 a, .int .i64 b]) = .returned (.tuple #[.int .i64 c, .int .i64 d]) := by rw [h, k]
section
variable {w : World} {b : Nat} {most : Int} {L : List A3} {S : Nat → Prop}
set_option maxRecDepth 100000 in
set_option maxHeartbeats 4000000 in
theorem rmake_any (h0 : RPX b most L w S) (hl : L.length ≤ 4500) (f : Int) :
    Calls Try.prog 18 #[.pointer (some ⟨b, 0, none⟩), .int .i64 f] w fun e w' =>
      e = .returned (.tuple #[.int .i64 (rmakeO f most L).1, .int .i64 (rmakeO f most L).2.1]) ∧ RPX b most (rmakeO f most L).2.2 w' (fun k => S k ∨ w.heap.size ≤ k) ∧ Fr S w w' := by
  have h0' := h0
  obtain ⟨v, h, hSb, hSv⟩ := h0
  have hbl := ob_lt h.blk
  have hids := rids_any (h.keep (Fr.refl _ w).drew) (by omega)
  obtain ⟨o, ho⟩ : ∃ o, rmakeO f most L = o := ⟨_, rfl⟩
  rw [ho]
  have HO := Lib.hid ho
  clear ho
  obtain ⟨A, N, C, rfl⟩ := h.row.shape
  have hN := Sl.recN a3s_len (by omega) h.row
  have HN := Lib.hid hN
  have hN5 : N ≤ 4500 := by omega
  obtain ⟨i0, hi, hz, hsz, hby⟩ := info_of' infoRA
  have hS0 : w.cell? ⟨b, 0, none⟩ = some (.int .i64 most) := cell_of_ob h.blk 0
  obtain ⟨n0, hn0⟩ : ∃ n0, (rids L).length = n0 := ⟨_, rfl⟩
  have HN0 := Lib.hid hn0
  clear hN hn0
  by_cases hfull : most ≤ (n0 : Int)
  · have HE : Hid (o = (0, 5, L)) := Lib.hid (by rw [← HO.out]; unfold rmakeO; rw [if_pos (by rw [HN0.out]; exact hfull)])
    rw [HE.out]
    go_enter Try.func18, Try.ntmps18
    go_wp2_with fail
    go_region_held3 (fun w' => w'.cell? ⟨b, 0, none⟩ = some (.int .i64 most)) (first | exact hS0 | assumption | go_keep)
      (first
        | (go_at_call 24; refine hids.mono ?_; rintro e w2 ⟨A2, N2, C2, rfl, hs2, ho2, hf2⟩; obtain rfl : N2 = n0 := (by have h1 := hs2.len; simp only [List.length_map, sliceLen] at h1; have := HN0.out; omega); have hS2 : w2.cell? ⟨b, 0, none⟩ = some (.int .i64 most) := cell_of_ob ((h.keep (Fr.refl _ w).drew).keep hf2).blk 0))
    have hfin : Fr (fun _ => False) w w2 := (Fr.refl _ w).drew.step hf2 (fun _ h => h.elim)
    clear hids hS0 hS2 hs2 ho2 hf2
    go_wp2
    go_ret2
    exact ⟨rfl, RPX.steady.wide (RPX.steady.keep h0' hfin) (fun k hk => .inl hk), hfin.mono' (fun _ h => h.elim)⟩
  · have hlt : (n0 : Int) < most := by omega
    have HE : Hid (o = match L.findIdx? (fun a => a.1 == 0) with | some i => ((i : Int) + 1, 0, L.set i (1, f, -1)) | none => ((L.length : Int) + 1, 0, L ++ [(1, f, -1)])) := Lib.hid (by rw [← HO.out]; unfold rmakeO; rw [if_neg (by rw [HN0.out]; exact hfull)])
    clear hfull
    go_enter Try.func18, Try.ntmps18
    go_wp2_with fail
    go_region_held3 (fun w' => w'.cell? ⟨b, 0, none⟩ = some (.int .i64 most)) (first | exact hS0 | assumption | go_keep)
      (first
        | (go_at_call 24; refine hids.mono ?_; rintro e w2 ⟨A2, N2, C2, rfl, hs2, ho2, hf2⟩; obtain rfl : N2 = n0 := (by have h1 := hs2.len; simp only [List.length_map, sliceLen] at h1; have := HN0.out; omega); have hS2 : w2.cell? ⟨b, 0, none⟩ = some (.int .i64 most) := cell_of_ob ((h.keep (Fr.refl _ w).drew).keep hf2).blk 0))
    have hf12 : Fr (fun _ => False) w w2 := (Fr.refl _ w).drew.step hf2 (fun _ h => h.elim)
    have h2 := h.keep hf12
    have c1 : w2.cell? ⟨b, 1, none⟩ = some (.slice A N C) := cell_of_ob h2.blk 1
    have hb2l := ob_lt h2.blk
    have hbs : b < w2.heap.size + 1 := by omega
    clear hids hS0 hS2 hs2 ho2 hf2
    go_wp2_with (at_builtin; go_must (refine wpList_appsrc (v := .slice (some ⟨w2.heap.size, 0, none⟩) 0 0) (y := .slice A N C) rfl _ _ _ rfl Try.underlying69 hi hz hsz hby rfl (by decide) rfl (Sl.builtAt _ [] 0 _ (by simp) rfl (by decide)) rfl (h2.row.alloc _) (a3s_one L) (by simp only [sliceLen, maxLen]; omega) (by simp only [sliceLen]; omega) ?_; intro v3 w3 hs3 hf3 ho3 hl3; obtain ⟨A3, N3, C3, rfl⟩ := hs3.shape))
    have hf3w : Fr (fun _ => False) w2 w3 := (((Fr.refl _ w2).alloc _).step hf3 (fun k hk => .inr (by cases hk; exact Nat.le_refl _)))
    have hn3 : ∀ k, (Value.slice A3 N3 C3).ownBlock = some k → w2.heap.size ≤ k := fun k hk => by
      rcases ho3 with h | ⟨q, h, hq⟩
      · rw [h] at hk; cases hk; exact Nat.le_refl _
      · rw [h] at hk; cases hk; simp at hq; omega
    obtain rfl : N3 = N := by have h1 : N3 = 0 + N := hl3; omega
    rw [List.nil_append] at hs3
    have hf03 := hf12.step hf3w (fun _ h => h.elim)
    have hw02 := hf12.size
    have HN3 := Lib.hid hn3
    clear hf3 ho3 hl3 hf3w c1 h2 hbs
    go_loopw [25] (fun si wr => ∃ (t : Nat), t ≤ N3 ∧ si = .int .i64 t ∧ Fr (fun _ => False) w3 wr ∧ Hid (∀ (i : Nat) a, i < t → L[i]? = some a → a.1 ≠ 0)) (fun si _ => N3 - (intOf si).toNat)
    case atStart => exact ⟨0, by omega, rfl, Fr.refl _ _, Lib.hid (fun i a hi => by omega)⟩
    case round =>
      obtain ⟨t, ht, rfl, hfr, HB⟩ := hrel
      have hsr := Sl.fr hs3 hfr (fun _ _ h => h)
      have hf0r := hf03.step hfr (fun _ h => h.elim)
      by_cases hlt2 : t < N3
      · obtain ⟨a, ha⟩ : ∃ a, L[t]? = some a := ⟨_, List.getElem?_eq_getElem (by have := HN.out; omega)⟩
        obtain ⟨g, off, n', cap', heq, hgl, hgz, hcs⟩ := Sl.recAt a3s_len (by omega) hsr ha
        cases heq
        obtain ⟨r, ff, s⟩ := a
        have x0 : wr.cell? ⟨g, off + t * 3, none⟩ = some (.int .i64 r) := hcs 0 _ rfl
        have x1 : wr.cell? ⟨g, off + t * 3 + 1, none⟩ = some (.int .i64 ff) := hcs 1 _ rfl
        have x2 : wr.cell? ⟨g, off + t * 3 + 2, none⟩ = some (.int .i64 s) := hcs 2 _ rfl
        have y0 := hgz (off + t * 3)
        have y1 := hgz (off + t * 3 + 1)
        have y2 := hgz (off + t * 3 + 2)
        have HA := Lib.hid ha
        have hrb := (h.keep hf0r).blk
        have z1 := frozen_of_ob hrb 1
        have q1 : wr.cell? ⟨b, 1, none⟩ = some (.slice A N3 C) := cell_of_ob hrb 1
        have hbr := ob_lt hrb
        have hgn := HN3.out g rfl
        have hgb : g ≠ b := by omega
        clear hcs hgz ha
        by_cases hr0 : r = 0
        · subst hr0
          have hres : o = ((t : Int) + 1, 0, L.set t (1, f, -1)) := by rw [HE.out, find_first HA.out rfl HB.out]
          have HRES := Lib.hid hres
          have htL : t < L.length := by have := HN.out; omega
          have hput := Sl.recSet a3s_len hsr htL (1, f, -1)
          have hfg : Fr (fun k => k = g) wr (wr.setCells g (off + t * 3) (a3s (1, f, -1))) := fr_setCells _ _ wr
          have hfa : Fr (fun _ => False) w (wr.setCells g (off + t * 3) (a3s (1, f, -1))) := hf0r.step hfg (fun k hk => .inr (by omega))
          have HPUT := Lib.hid hput
          have HFA := Lib.hid hfa
          clear hput hfg hfa hres hsr hf0r hfr hrb
          go_wp2
          go_ret2
          obtain ⟨g1, g2⟩ := h.copied hSb HFA.out HPUT.out (fun k hk => by have := HN3.out k hk; omega)
          have e3 : o.2.2 = L.set t (1, f, -1) := by rw [HRES.out]
          refine ⟨ret2_i64 (by rw [HRES.out]) (by rw [HRES.out]), ?_, g2.alloc _⟩
          rw [e3]
          exact ⟨_, g1.keep ((Fr.refl _ _).alloc _), .inl hSb, fun k hk => .inr (by have := HN3.out k hk; omega)⟩
        · have hrb0 : (r == 0) = false := by simp [hr0]
          have HR0 := Lib.hid hr0
          clear hr0 hsr hf0r
          go_wp2
          go_roundw
          case rel => exact ⟨t + 1, by omega, by go_num, hfr.alloc _, Lib.hid fun i a hi hL => (by
            by_cases hit : i = t
            · subst hit; rw [HA.out] at hL; cases hL; exact HR0.out
            · exact HB.out i a (by omega) hL)⟩
          case measure => simp [intOf]; omega
      · obtain rfl : t = N3 := by omega
        have hres : o = ((L.length : Int) + 1, 0, L ++ [(1, f, -1)]) := by
          rw [HE.out, find_none (fun i a ha => HB.out i a (by have := (List.getElem?_eq_some_iff.1 ha).1; have := HN.out; omega) ha)]
        have HRES := Lib.hid hres
        have hrb := (h.keep hf0r).blk
        have z1 := frozen_of_ob hrb 1
        have q1 : wr.cell? ⟨b, 1, none⟩ = some (.slice A t C) := cell_of_ob hrb 1
        have hbr := ob_lt hrb
        have hn3r : ∀ k, (Value.slice A3 t C3).ownBlock = some k → k ≠ b := fun k hk => by have := HN3.out k hk; omega
        have HN3R := Lib.hid hn3r
        clear hres hn3r
        go_wp2_with (at_builtin; go_must (refine wpList_app (v := .slice A3 t C3) rfl _ _ _ rfl Try.underlying69 hi hz hsz hby rfl (by decide) rfl (hsr.alloc _) wr.heap.size 1 1 [.int .i64 1, .int .i64 f, .int .i64 (-1)] rfl (ob_newAt _ _ _ rfl) rfl (by simp [Value.oneCell']) (by decide) (by simp only [maxLen, sliceLen]; omega) (by simp only [sliceLen]; omega) ?_; intro v5 w5 hs5 hf5 ho5 hl5; obtain ⟨A5, N5, C5, rfl⟩ := hs5.shape; have hb5 : ob w5 b = some (.cells #[.int .i64 most, .slice A t C] 71 (0, 0)) := hf5.keep (fun e => HN3R.out b e rfl) (by rw [ob_alloc _ _ _ hbr]; exact hrb); have q5 : w5.cell? ⟨b, 1, none⟩ = some (.slice A t C) := cell_of_ob hb5 1; have z5 := frozen_of_ob hb5 1; have hN50 : N5 = t + 1 := hl5; have hN55 : N5 ≤ 4501 := (by omega); have HN50 := Lib.hid hN50; clear hN50))
        go_ret2
        have hf5w : Fr (fun _ => False) w w5 := (hf0r.alloc _).step hf5 (fun k hk => .inr (by have := HN3.out k hk; omega))
        have hs6 : Sl w5 50 3 (.slice A5 N5 C5) ((L ++ [(1, f, -1)]).flatMap a3s) := by rw [recs_snoc]; exact hs5
        have ho5' : ∀ k, (Value.slice A5 N5 C5).ownBlock = some k → w.heap.size ≤ k := fun k hk => by
          rcases ho5 with h | ⟨q, h, hq⟩
          · rw [h] at hk; have := HN3.out k hk; omega
          · rw [h] at hk; cases hk; have := hf0r.size; simp at hq; omega
        obtain ⟨g1, g2⟩ := h.copied hSb hf5w hs6 ho5'
        have e3 : o.2.2 = L ++ [(1, f, -1)] := by rw [HRES.out]
        refine ⟨ret2_i64 (by rw [HRES.out]; have := HN50.out; have := HN.out; show (N5 : Int) = (L.length : Int) + 1; omega) (by rw [HRES.out]), ?_, g2⟩
        rw [e3]
        exact ⟨_, g1, .inl hSb, fun k hk => .inr (ho5' k hk)⟩
end
end Go.Proofs.Ytalinhpdibdlkaa
