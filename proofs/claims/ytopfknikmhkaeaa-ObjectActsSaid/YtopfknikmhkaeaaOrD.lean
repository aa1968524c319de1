/- pantryref14.Pool: Make. Conditions: bounds on lengths. -/
import Derived.Test.YtopfknikmhkaeaaOrC
import Derived.Deep.RegionHeld3
namespace Go.Proofs.Ytopfknikmhkaeaa
open Go.RowKit
set_option linter.unusedSimpArgs false
set_option linter.unusedVariables false
attribute [local go_sem] Oper.semAt_some
def rmakeO (most file : Int) (l : List (Option Obt)) : Int × Int × List (Option Obt) :=
  if file < 0 then (0, 2, l) else if 0 < rofR l file then (0, 8, l) else if most ≤ ((oids l).length : Int) then (0, 5, l) else match l.findIdx? (fun o => o.isNone) with
    | some i => ((i : Int) + 1, 0, l.set i (some (file, 1, [])))
    | none => ((l.length : Int) + 1, 0, l ++ [some (file, 1, [])])
theorem find_firstO {α : Type} {L : List (Option α)} {t : Nat} (h : L[t]? = some none) (hn : ∀ (i : Nat), i < t → L[i]? ≠ some none) : L.findIdx? (fun o => o.isNone) = some t := by
  have ht := (List.getElem?_eq_some_iff.1 h).1
  rw [List.findIdx?_eq_some_iff_getElem]
  refine ⟨ht, ?_, fun i hi => ?_⟩
  · have : L[t] = none := (List.getElem?_eq_some_iff.1 h).2
    rw [this]; rfl
  · have := hn i hi
    rw [List.getElem?_eq_getElem (by omega)] at this
    simp only [ne_eq, Option.some.injEq] at this
    cases hx : L[i] with
    | none => exact absurd hx this
    | some a => simp
theorem find_noneO {α : Type} {L : List (Option α)} (hn : ∀ (i : Nat), i < L.length → L[i]? ≠ some none) : L.findIdx? (fun o => o.isNone) = none := by
  rw [List.findIdx?_eq_none_iff]
  intro a ha
  obtain ⟨i, hi⟩ := List.mem_iff_getElem?.1 ha
  have hl := (List.getElem?_eq_some_iff.1 hi).1
  have := hn i hl
  rw [hi] at this
  cases a with
  | none => exact absurd rfl this
  | some a => rfl
theorem isNone_out (L : List (Option REnt)) : (outR L).findIdx? (fun o => o.isNone) = L.findIdx? (fun o => o.isNone) := by
  unfold outR
  rw [List.findIdx?_map]
  congr 1
  funext o
  cases o <;> rfl
theorem ret2i {a b c d : Int} (h : a = c) (k : b = d) : Ending.returned (.tuple #[.int .i64 a, .int .i64 b]) = .returned (.tuple #[.int .i64 c, .int .i64 d]) := by rw [h, k]
section
variable {w w1 w5 : World} {b : Nat} {most : Int} {v v5 : Value} {L : List (Option REnt)} {l : List (Option Obt)} {S : Nat → Prop} {e e' : REnt} {i j : Nat}
theorem RT.grow (h : RT w b most v L) (hf : Fr (fun k => v.ownBlock = some k) w w5) (hs : Sl w5 86 1 v5 (ptrR L ++ [ptrV (some e.1)])) (ho : ROT w5 e) (hn : w.heap.size ≤ e.1)
    (hv5 : v5.ownBlock = v.ownBlock ∨ ∃ k, v5.ownBlock = some k ∧ w.heap.size ≤ k) :
    RT (w5.setCell ⟨b, 1, none⟩ v5) b most v5 (L ++ [some e]) ∧ Fr (fun k => k = b ∨ v.ownBlock = some k) w (w5.setCell ⟨b, 1, none⟩ v5) ∧ ∀ k, RS b v5 (L ++ [some e]) k → RS b v L k ∨ w.heap.size ≤ k ∨ e.2.1.ownBlock = some k := by
  have hbl := ob_lt h.blk
  have hb5 : ob w5 b = some (.cells #[.int .i64 most, v] 85 (0, 0)) := hf.keep (fun hk => h.evb hk rfl) h.blk
  have hf6 : Fr (fun k => k = b) w5 (w5.setCell ⟨b, 1, none⟩ v5) := (Fr.refl _ _).setCell _ _ (.inl rfl)
  have hF : Fr (fun k => k = b ∨ v.ownBlock = some k) w (w5.setCell ⟨b, 1, none⟩ v5) := (hf.mono' (fun k hk => .inr hk)).step hf6 (fun k hk => .inl (.inl hk))
  have hold : ∀ i (x : REnt), (L ++ [some e])[i]? = some (some x) → L[i]? = some (some x) ∨ (i = L.length ∧ x = e) := fun i x hx => by
    rw [List.getElem?_append] at hx
    split at hx
    · exact .inl hx
    · rename_i hi
      right
      have : i - L.length = 0 := by
        refine Decidable.byContradiction fun hc => ?_
        rw [List.getElem?_eq_none (by simp; omega)] at hx
        cases hx
      rw [this] at hx
      simp at hx
      exact ⟨by omega, hx.symm⟩
  have heb : e.1 ≠ b := by omega
  refine ⟨⟨ob_setCell_same hb5 _, ?_, fun i x hx => ?_, fun i k x y hx hy hxy => ?_⟩, hF, fun k hk => ?_⟩
  · have hp : ptrR (L ++ [some e]) = ptrR L ++ [ptrV (some e.1)] := by simp [ptrR]
    rw [hp]
    exact Sl.fr hs hf6 (fun k hk => hs.ne hk hb5 (by decide))
  · rcases hold i x hx with hx2 | ⟨-, hxe⟩
    · exact (h.one i x hx2).fr hF (fun hk => hk.elim (h.eb hx2) (fun hk => h.eve hk hx2 rfl)) (fun k hk hq => hq.elim (h.pb hx2 hk) (fun hq => h.pv hx2 hk hq rfl))
    · rw [hxe]; exact ho.fr hf6 heb (fun k hk => ho.row.ne hk hb5 (by decide))
  · rcases hold i x hx with hx2 | ⟨hi, hxe⟩ <;> rcases hold k y hy with hy2 | ⟨hk, hye⟩
    · exact h.inj _ _ _ _ hx2 hy2 hxy
    · have := ob_lt (h.one i x hx2).blk; rw [hye] at hxy; omega
    · have := ob_lt (h.one k y hy2).blk; rw [hxe] at hxy; omega
    · omega
  · rcases hk with hk | hk | ⟨i, x, hx, hk⟩
    · exact .inl (.inl hk)
    · rcases hv5 with h1 | ⟨q, h1, h2⟩
      · exact .inl (.inr (.inl (by rw [← h1]; exact hk)))
      · rw [h1] at hk; cases hk; exact .inr (.inl h2)
    · rcases hold i x hx with hx2 | ⟨-, hxe⟩
      · exact .inl (.inr (.inr ⟨i, x, hx2, hk⟩))
      · rw [hxe] at hk
        rcases hk with h1 | h1
        · exact .inr (.inl (by rw [h1]; exact hn))
        · exact .inr (.inr h1)
set_option maxRecDepth 100000 in
set_option maxHeartbeats 4000000 in
theorem romake_any (h0 : ORX b most l w S) (hl : l.length ≤ 4500) (file : Int) :
    Calls Try.prog 21 #[.pointer (some ⟨b, 0, none⟩), .int .i64 file] w fun e w' =>
      e = .returned (.tuple #[.int .i64 (rmakeO most file l).1, .int .i64 (rmakeO most file l).2.1]) ∧ ORX b most (rmakeO most file l).2.2 w' (fun k => S k ∨ w.heap.size ≤ k) ∧ Fr S w w' := by
  have h0' := h0
  have hof := roof_any h0 (by omega) file
  obtain ⟨o, ho⟩ : ∃ o, rmakeO most file l = o := ⟨_, rfl⟩
  rw [ho]
  unfold rmakeO at ho
  by_cases hneg : file < 0
  · rw [if_pos hneg] at ho
    subst ho
    go_enter Try.func21, Try.ntmps21
    go_wp2
    exact bodyPost_ret (v := .tuple #[.int .i64 0, .int .i64 2]) (by simp [results, Try.results21, go_sem]) rfl ⟨rfl, (ORX.steady _ _ _).wide h0' (fun k hk => .inl hk), Fr.refl _ _⟩
  rw [if_neg hneg] at ho
  obtain ⟨r, hr⟩ : ∃ r, rofR l file = r := ⟨_, rfl⟩
  rw [hr] at ho hof
  clear hr
  by_cases hpos : 0 < r
  · rw [if_pos hpos] at ho
    subst ho
    go_enter Try.func21, Try.ntmps21
    go_wp2_with fail
    refine hof.mono ?_
    rintro e w1 ⟨rfl, hf1⟩
    go_wp2
    exact bodyPost_ret (v := .tuple #[.int .i64 0, .int .i64 8]) (by simp [results, Try.results21, go_sem]) rfl ⟨rfl, (ORX.steady _ _ _).wide ((ORX.steady _ _ _).keep h0' hf1) (fun k hk => .inl hk), hf1.mono' (fun _ h => h.elim)⟩
  rw [if_neg hpos] at ho
  obtain ⟨v, L, h, rfl, hS⟩ := h0
  have hlL : L.length ≤ 4500 := by rw [outR_len] at hl; exact hl
  rw [oids_out, isNone_out] at ho
  obtain ⟨n0, hn0⟩ : ∃ n0, (oids L).length = n0 := ⟨_, rfl⟩
  have HN0 := Lib.hid hn0
  rw [hn0] at ho
  have HO := Lib.hid ho
  clear ho hn0
  go_enter Try.func21, Try.ntmps21
  go_wp2_with fail
  refine hof.mono ?_
  rintro e w1 ⟨rfl, hf1⟩
  clear hof
  have h1 := h.keep hf1
  have hids := roids_any (h1.keep (Fr.refl _ w1).drew) (by omega)
  have hS0 : w1.cell? ⟨b, 0, none⟩ = some (.int .i64 most) := cell_of_ob h1.blk 0
  have H1 := Lib.hid h1
  go_wp2_with fail
  go_region_held3 (fun w' => w'.cell? ⟨b, 0, none⟩ = some (.int .i64 most)) (first | exact hS0 | assumption | go_keep)
    (first
      | (go_at_call 29; refine hids.mono ?_; rintro e w2 ⟨A2, N2, C2, rfl, hs2, ho2, hf2⟩; obtain rfl : N2 = n0 := (by have h1 := hs2.len; simp only [List.length_map, sliceLen] at h1; have := HN0.out; omega); have hS2 : w2.cell? ⟨b, 0, none⟩ = some (.int .i64 most) := cell_of_ob ((H1.out.keep (Fr.refl _ w1).drew).keep hf2).blk 0))
  have hf12 : Fr (fun _ => False) w w2 := hf1.step ((Fr.refl (fun _ => False) w1).drew.step hf2 (fun _ h => h.elim)) (fun _ h => h.elim)
  clear hids hS0 hS2 hs2 ho2 hf2 h1
  by_cases hfull : most ≤ (N2 : Int)
  · have HE : Hid (o = (0, 5, outR L)) := Lib.hid (by rw [← HO.out, if_pos hfull])
    go_wp2
    rw [HE.out]
    exact bodyPost_ret (v := .tuple #[.int .i64 0, .int .i64 5]) (by simp [results, Try.results21, go_sem]) rfl ⟨rfl, (ORX.steady _ _ _).wide ((ORX.steady _ _ _).keep h0' hf12) (fun k hk => .inl hk), hf12.mono' (fun _ h => h.elim)⟩
  have HE : Hid (o = match L.findIdx? (fun o => o.isNone) with | some i => ((i : Int) + 1, 0, (outR L).set i (some (file, 1, []))) | none => (((outR L).length : Int) + 1, 0, outR L ++ [some (file, 1, [])])) := Lib.hid (by rw [← HO.out, if_neg hfull])
  have h2 := h.keep hf12
  obtain ⟨bo, hbo⟩ : ∃ k, w2.heap.size = k := ⟨_, rfl⟩
  obtain ⟨w3, hw3⟩ : ∃ w3, w2.alloc (.cells #[.int .i64 file, .int .i64 1, .slice none 0 0] 88) = w3 := ⟨_, rfl⟩
  have hf23 : Fr (fun _ => False) w2 w3 := by rw [← hw3]; exact (Fr.refl _ _).alloc _
  have oo : ob w3 bo = some (.cells #[.int .i64 file, .int .i64 1, .slice none 0 0] 88 (0, 0)) := by rw [← hw3, ← hbo]; exact ob_new _ _
  have h3 := h2.keep hf23
  have hf03 := hf12.step hf23 (fun _ h => h.elim)
  have hwbo : w.heap.size ≤ bo := by have := hf12.size; omega
  have hN := h.elen
  obtain ⟨A, N, C, rfl⟩ := h.row.shape
  simp only [sliceLen] at hN
  have HN := Lib.hid hN
  have hN5 : N ≤ 4500 := by omega
  have c1 : w2.cell? ⟨b, 1, none⟩ = some (.slice A N C) := cell_of_ob h2.blk 1
  have d1 : w3.cell? ⟨b, 1, none⟩ = some (.slice A N C) := cell_of_ob h3.blk 1
  have f1 := frozen_of_ob h3.blk 1
  have hb2 := ob_lt h2.blk
  have hb3 := ob_lt h3.blk
  have hb2s : b < w2.heap.size + 1 := by omega
  have hbo3 := ob_lt oo
  have HBO := Lib.hid hbo
  have hbne : bo ≠ b := by omega
  obtain ⟨i0, hi0, hz, hsz, hby⟩ := oinfo infoOP
  have HW3 := Lib.hid hw3
  clear hN H1 HO HN0
  go_upto_region 8 with fail
  have hw3' := HW3.out
  have hbo' := HBO.out
  try rw [hw3']
  try rw [hbo']
  clear hw3' hbo' c1 hb2s
  go_wp2_with fail
  go_loop [34] (fun si => ∃ (t : Nat), t ≤ N ∧ si = .int .i64 t ∧ Hid (∀ (i : Nat), i < t → L[i]? ≠ some none)) (fun si => N - (intOf si).toNat)
  case atStart => exact ⟨0, by omega, rfl, Lib.hid (fun i hi => by omega)⟩
  case round =>
    obtain ⟨t, ht, rfl, HB⟩ := hrel
    by_cases hlt2 : t < N
    · obtain ⟨x, hx⟩ : ∃ x, L[t]? = some x := ⟨_, List.getElem?_eq_getElem (by have := HN.out; omega)⟩
      obtain ⟨g, off, n', cap', heq, hgl, hgz, hcs⟩ := h3.item hx
      cases heq
      have HX := Lib.hid hx
      have z0 := hgz (off + t)
      clear hx hgz
      cases x with
      | some e =>
        simp only [ptrV, Option.map_some] at hcs
        go_wp2
        go_round
        case rel => exact ⟨t + 1, by omega, by go_num, Lib.hid fun i hi => (by
          by_cases hit : i = t
          · subst hit; rw [HX.out]; simp
          · exact HB.out i (by omega))⟩
        case measure => simp [intOf]; omega
      | none =>
        simp only [ptrV, Option.map_none] at hcs
        have HRES : Hid (o = ((t : Int) + 1, 0, (outR L).set t (some (file, 1, [])))) := Lib.hid (by rw [HE.out, find_firstO HX.out HB.out])
        have htL : t < L.length := by have := HN.out; omega
        have hset := sl_set1 (u := .pointer (some ⟨bo, 0, none⟩)) h3.row rfl (j := t) (by unfold ptrR; simpa using htL)
        have hf : Fr (fun q => (Value.slice (some ⟨g, off, none⟩) N C).ownBlock = some q) w3 (w3.setCell ⟨g, off + t, none⟩ (.pointer (some ⟨bo, 0, none⟩))) := (Fr.refl _ _).setCell _ _ (.inl rfl)
        have hgo : g ≠ bo := by
          have := Sl.lt h.row (k := g) rfl
          omega
        have hX : RT (w3.setCell ⟨g, off + t, none⟩ (.pointer (some ⟨bo, 0, none⟩))) b most (.slice (some ⟨g, off, none⟩) N C) (L.set t (some (bo, .slice none 0 0, file, 1, []))) := h3.slot (hf.block _ hb3 (fun hk => h3.evb hk rfl)) (by rw [ptrR_set]; exact hset) hf (fun x hx => by
          cases hx
          refine ⟨⟨hf.keep (fun hk => by cases hk; exact hgo rfl) oo, Sl.nil _ _ _⟩, fun i e he => ?_⟩
          have := ob_lt (h.one i e he).blk
          show e.1 ≠ bo
          omega)
        have HXX := Lib.hid hX
        have HSG : Hid (S g) := Lib.hid (hS g (.inr (.inl rfl)))
        have HF := Lib.hid (show Fr S w (w3.setCell ⟨g, off + t, none⟩ (.pointer (some ⟨bo, 0, none⟩))) from (hf03.mono' (fun _ h => h.elim)).step hf (fun k hk => by cases hk; exact .inl HSG.out))
        clear hset hf hX
        go_wp2
        have e3 : o.2.2 = (outR L).set t (some (file, 1, [])) := by rw [HRES.out]
        refine bodyPost_ret (v := .tuple #[.int .i64 ((t : Int) + 1), .int .i64 0]) (by simp [results, Try.results21, go_sem]) rfl ⟨ret2i (by rw [HRES.out]) (by rw [HRES.out]), ?_, HF.out⟩
        rw [e3]
        refine ⟨_, _, HXX.out, by rw [outR_set]; rfl, fun k hk => ?_⟩
        rcases RS_slot hk with h4 | ⟨x, hx, h4⟩
        · exact .inl (hS k h4)
        · cases hx
          rcases h4 with rfl | h4
          · exact .inr hwbo
          · cases h4
    · obtain rfl : t = N := by omega
      have HRES : Hid (o = (((outR L).length : Int) + 1, 0, outR L ++ [some (file, 1, [])])) := Lib.hid (by rw [HE.out, find_noneO (fun i hi => HB.out i (by have := HN.out; omega))])
      have H3 := Lib.hid h3
      have HOO := Lib.hid oo
      have hb3s : b < w3.heap.size + 1 := by omega
      have hb3t : b < w3.heap.size + 1 + 1 := by omega
      clear HB HE
      go_wp2_with (at_builtin; go_must (
        refine wpList_app (v := .slice A t C) rfl _ _ _ rfl Try.underlying83 hi0 hz hsz hby rfl (by decide) rfl (h3.row.alloc _) w3.heap.size 1 1 [.pointer (some ⟨bo, 0, none⟩)] rfl (ob_newAt _ _ _ (by simp)) rfl (by simp [Value.oneCell']) (by decide) (by simp only [maxLen, sliceLen]; omega) (by simp only [sliceLen]; omega) ?_
        intro v5 w5 hs5 hf5 ho5 hl5
        obtain ⟨A5, N5, C5, rfl⟩ := hs5.shape
        have hf35 : Fr (fun k => (Value.slice A t C).ownBlock = some k) w3 w5 := ((Fr.refl _ _).alloc _).step hf5 (fun k hk => .inl hk)
        have hb5 := hf35.keep (fun hk => H3.out.evb hk rfl) H3.out.blk
        have e1 : w5.cell? ⟨b, 1, none⟩ = some (.slice A t C) := cell_of_ob hb5 1
        have z1 := frozen_of_ob hb5 1
        have hb5l := ob_lt hb5
        have oo5 := hf35.keep (k := bo) (fun hk => by have := Sl.lt h.row hk; omega) HOO.out
        have HG := Lib.hid (RT.grow (e := (bo, .slice none 0 0, file, 1, [])) h ((hf03.mono' (fun _ h => h.elim)).step hf35 (fun k hk => .inl hk)) hs5 ⟨oo5, Sl.nil _ _ _⟩ hwbo (ho5.imp_right (fun ⟨k, h1, h2⟩ => ⟨k, h1, by have := hf03.size; simp at h2; omega⟩)))
        obtain rfl : N5 = t + 1 := hl5))
      obtain ⟨g1, g2, g3⟩ := HG.out
      have e3 : o.2.2 = outR L ++ [some (file, 1, [])] := by rw [HRES.out]
      refine bodyPost_ret (v := .tuple #[.int .i64 ((t + 1 : Nat) : Int), .int .i64 0]) (by simp [results, Try.results21, go_sem]) rfl ⟨ret2i (by rw [HRES.out, outR_len]; have := HN.out; show ((t + 1 : Nat) : Int) = (L.length : Int) + 1; omega) (by rw [HRES.out]), ?_, g2.mono' (fun k hk => hk.elim (fun h => by rw [h]; exact hS b (.inl rfl)) (fun h => hS k (.inr (.inl h))))⟩
      rw [e3]
      refine ⟨_, _, g1, by simp [outR], fun k hk => ?_⟩
      rcases g3 k hk with h4 | h4 | h4
      · exact .inl (hS k h4)
      · exact .inr h4
      · cases h4
end
end Go.Proofs.Ytopfknikmhkaeaa
