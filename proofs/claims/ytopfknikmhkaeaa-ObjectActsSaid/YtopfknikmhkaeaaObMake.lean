/- object.Pool: Make. Conditions: at most 4096 objects, whose numbers are numbers of the kind. -/
import Derived.Test.YtopfknikmhkaeaaObIds
namespace Go.Proofs.Ytopfknikmhkaeaa
open Go.RowKit
set_option linter.unusedSimpArgs false
set_option linter.unusedVariables false
attribute [local go_sem] Oper.semAt_some
/-- The least number that none has. -/
def Lowest {α : Type} (l : List (Int × α)) (id : Int) : Prop := 1 ≤ id ∧ alGet l id = none ∧ ∀ j, 1 ≤ j → j < id → alGet l j ≠ none
theorem len_sub : ∀ (l1 l2 : List Int), l1.Nodup → (∀ x ∈ l1, x ∈ l2) → l1.length ≤ l2.length
  | [], l2, _, _ => by simp
  | x :: l1, l2, hn, hs => by
    have hx : x ∈ l2 := hs x (by simp)
    rw [List.nodup_cons] at hn
    have h1 := len_sub l1 (l2.erase x) hn.2 (fun y hy => (List.mem_erase_of_ne (fun e => hn.1 (by rw [← e]; exact hy))).2 (hs y (by simp [hy])))
    rw [List.length_erase_of_mem hx] at h1
    have h2 : 0 < l2.length := List.length_pos_of_mem hx
    simp only [List.length_cons]
    omega
theorem low_bound {α : Type} (l : List (Int × α)) (t : Nat) (h : ∀ j : Int, 1 ≤ j → j < (t : Int) + 1 → alGet l j ≠ none) : t ≤ l.length := by
  have h1 := len_sub ((List.range t).map fun k : Nat => (k : Int) + 1) (l.map (·.1)) (by
    rw [List.nodup_iff_pairwise_ne, List.pairwise_map]
    exact List.nodup_range.imp (fun h => by omega)) (fun x hx => by
    obtain ⟨k, hk, rfl⟩ := List.mem_map.1 hx
    simp at hk
    exact Decidable.byContradiction fun hc => h ((k : Int) + 1) (by omega) (by omega) (alGet_none_of l _ hc))
  simpa using h1
def MakeR (most : Int) (l : List (Int × Obt)) (file id er : Int) (l' : List (Int × Obt)) : Prop :=
  (file < 0 ∧ id = 0 ∧ er = 2 ∧ l' = l) ∨ (0 ≤ file ∧ 0 < ofR l file ∧ id = 0 ∧ er = 8 ∧ l' = l) ∨ (0 ≤ file ∧ ¬ 0 < ofR l file ∧ most ≤ l.length ∧ id = 0 ∧ er = 5 ∧ l' = l) ∨
    (0 ≤ file ∧ ¬ 0 < ofR l file ∧ (l.length : Int) < most ∧ er = 0 ∧ Lowest l id ∧ l' = alSet l id (file, 1, []))
section
variable {w w1 : World} {b m : Nat} {most : Int} {L : List (Int × Ent)} {l : List (Int × Obt)} {S : Nat → Prop} {id : Int}
theorem OT.add (h : OT w b m most L) (hn : alGet L id = none) (e : Ent) (hq : w.heap.size ≤ e.1) (hp : w.heap.size ≤ e.2.1) (ho : OneT w1 e) (ha : MapIs ik ptrV w1 m (alSet (ptrL L) id (some e.1))) (hf : Fr (fun q => q = m) w w1) : OT w1 b m most (alSet L id e) := by
  have hml := h.all.lt
  refine ⟨hf.keep h.bm h.blk, by rw [ptrL_set]; exact ha, fun x e2 hx => ?_, fun k1 k2 e1 e2 hx hy hq2 => ?_, fun x e2 hx => ?_, alSet_nodup _ _ _ h.nodup⟩
  · rw [alGet_set] at hx
    split at hx
    · cases hx; exact ho
    · exact (h.one x e2 hx).fr hf (h.onem hx) (h.mne x e2 hx)
  · rw [alGet_set] at hx hy
    split at hx <;> split at hy
    · rename_i a b; rw [a, b]
    · cases hx
      have h1 := ob_lt (h.one _ _ hy).blk
      have h2 := (h.one _ _ hy).pages.lt
      omega
    · cases hy
      have h1 := ob_lt (h.one _ _ hx).blk
      have h2 := (h.one _ _ hx).pages.lt
      omega
    · exact h.inj _ _ _ _ hx hy hq2
  · rw [alGet_set] at hx
    split at hx
    · cases hx; omega
    · exact h.mne _ _ hx
set_option maxRecDepth 100000 in
set_option maxHeartbeats 2000000 in
theorem make_any (h : ObX b most l w S) (hk : ObKeys l) (file : Int) :
    Calls Try.prog 10 #[.pointer (some ⟨b, 0, none⟩), .int .i64 file] w fun e w' => ∃ id er, e = .returned (.tuple #[.int .i64 id, .int .i64 er]) ∧ ∃ l', MakeR most l file id er l' ∧ ObX b most l' w' (fun k => S k ∨ w.heap.size ≤ k) ∧ Fr S w w' := by
  have hof := of2_any h hk file
  have hfew := hk.few
  clear hk
  obtain ⟨R, hR⟩ : ∃ R, R = ofR l file := ⟨_, rfl⟩
  rw [← hR] at hof
  have HR := Lib.hid hR
  clear hR
  have hW : ObX b most l w (fun k => S k ∨ w.heap.size ≤ k) := (ObX.steady b most l).wide h (fun _ h => .inl h)
  obtain ⟨m0, L0, hT0, -, -⟩ := id h
  have hmade := made_any hT0
  clear hT0 m0 L0
  by_cases h1 : file < 0
  · go_enter Try.func10, Try.ntmps10
    go_wp2_with fail
    refine hmade.mono ?_
    rintro e w1 ⟨rfl, rfl⟩
    go_wp2
    refine bodyPost_ret (v := .tuple #[.int .i64 0, .int .i64 2]) (by simp [results, Try.results10, go_sem]) rfl ⟨0, 2, rfl, l, .inl ⟨h1, rfl, rfl, rfl⟩, hW, Fr.refl _ _⟩
  · by_cases h2 : 0 < R
    · go_enter Try.func10, Try.ntmps10
      go_wp2_with fail
      refine hmade.mono ?_
      rintro e w1 ⟨rfl, rfl⟩
      go_wp2_with fail
      refine hof.mono ?_
      rintro e w1 ⟨rfl, hf1⟩
      go_wp2
      refine bodyPost_ret (v := .tuple #[.int .i64 0, .int .i64 8]) (by simp [results, Try.results10, go_sem]) rfl ⟨0, 8, rfl, l, .inr (.inl ⟨by omega, by rw [← HR.out]; exact h2, rfl, rfl, rfl⟩), (ObX.steady b most l).keep hW hf1, hf1.mono' (fun _ h => h.elim)⟩
    · go_enter Try.func10, Try.ntmps10
      go_wp2_with fail
      refine hmade.mono ?_
      rintro e w1 ⟨rfl, rfl⟩
      go_wp2_with fail
      refine hof.mono ?_
      rintro e w1 ⟨rfl, hf1⟩
      go_wp2_with fail
      have h3 := (ObX.steady b most l).keep h hf1
      obtain ⟨m, L, hT, rfl, hS⟩ := h3
      have hbl := hT.lt
      have hml := hT.all.lt
      have hlen : (ptrL L).length = (outL L).length := by simp [ptrL, outL]
      obtain ⟨n, hn⟩ : ∃ n, n = (outL L).length := ⟨_, rfl⟩
      rw [← hn] at hlen hfew
      have HN := Lib.hid hn
      clear hn
      have c0 : w1.cell? ⟨b, 0, none⟩ = some (.int .i64 most) := cell_of_ob hT.blk 0
      have c2 : w1.cell? ⟨b, 2, none⟩ = some (.map (some m)) := cell_of_ob hT.blk 2
      have HLEN := Lib.hid hlen
      clear hlen
      refine wp_region_canon [0, 1, 2, 5, 6, 7, 3, 4, 8, 9, 10] (by kernel_rfl) (by kernel_rfl) (fun K hK => ?_)
      simp only [List.map_cons, List.map_nil, List.getD_cons_succ, List.getD_cons_zero]
      go_wp2_with (at_len; go_must (refine wpList_maplen rfl _ _ _ rfl rfl Try.underlying66 (hT.all.of rfl) ?_; rw [HLEN.out]))
      refine hK _ _ (by kernel_rfl) ?_
      clear hK K
      by_cases h4 : most ≤ (n : Int)
      · go_wp2
        refine bodyPost_ret (v := .tuple #[.int .i64 0, .int .i64 5]) (by simp [results, Try.results10, go_sem]) rfl ⟨0, 5, rfl, outL L, .inr (.inr (.inl ⟨by omega, by rw [← HR.out]; omega, by rw [← HN.out]; exact h4, rfl, rfl, rfl⟩)), (ObX.steady b most _).keep hW (hf1.drew), (hf1.drew).mono' (fun _ h => h.elim)⟩
      · go_wp2_with fail
        go_loop [6] (fun si => ∃ t : Nat, si = .int .i64 ((t : Int) + 1) ∧ t ≤ n ∧ Hid (∀ j : Int, 1 ≤ j → j < (t : Int) + 1 → alGet L j ≠ none)) (fun si => n + 1 - (intOf si).toNat)
        case atStart => exact ⟨0, rfl, by omega, Lib.hid (fun j h1 h2 => by omega)⟩
        case round =>
          obtain ⟨t, rfl, ht, HF⟩ := hrel
          rcases he : alGet L ((t : Int) + 1) with _ | ⟨q, pm, f, nn, pgs⟩
          · have hg : (alGet (ptrL L) ((t : Int) + 1)).getD none = none := by rw [get_ptrL, he]; rfl
            have HG := Lib.hid hg
            have HE := Lib.hid he
            clear hg he
            have hmm := @run_makeMap Try.prog
            go_wp2_with (first
              | (at_lookup; go_must (refine wpList_look1 rfl _ _ _ rfl rfl ((t : Int) + 1) rfl key_ik Try.underlying66 none zeroPtr (hT.all.of rfl) none HG.out ?_; simp only [ptrV, Option.map_none]))
              | (at_mapUpdate; go_must (refine wpList_upd rfl _ _ _ _ rfl rfl ((t : Int) + 1) rfl (some (w1.heap.size + 1)) rfl key_ik Try.underlying66 (hT.all.of ((ob_alloc _ _ _ (by simp; omega)).trans (ob_alloc _ _ _ hml))) ?_; intro o2 hm2)))
            have hT2 := hT.add (id := (t : Int) + 1) (w1 := putOb ((w1.drew.alloc (.map #[] 0)).alloc (.cells #[.int .i64 file, .int .i64 1, .map (some w1.heap.size)] 74)) m o2) HE.out (w1.heap.size + 1, w1.heap.size, file, 1, []) (by simp) (by simp) ⟨(ob_putOb_ne _ _ _ _ (by simp; omega)).trans (ob_newAt _ _ _ (by simp)), (MapIs.new w1.drew).of ((ob_putOb_ne _ _ _ _ (by simp; omega)).trans (ob_alloc _ _ _ (by simp)))⟩ hm2 ((((Fr.refl _ w1).drew.alloc _).alloc _).putOb _ _ (.inl rfl))
            refine bodyPost_ret (v := .tuple #[.int .i64 ((t : Int) + 1), .int .i64 0]) (by simp [results, Try.results10, go_sem]) rfl ⟨(t : Int) + 1, 0, rfl, alSet (outL L) ((t : Int) + 1) (file, 1, []), .inr (.inr (.inr ⟨by omega, by rw [← HR.out]; omega, by rw [← HN.out]; omega, rfl, ⟨by omega, by rw [get_outL, HE.out]; rfl, fun j h1 h2 hc => HF.out j h1 h2 (by rw [get_outL] at hc; simpa using hc)⟩, rfl⟩)), ⟨m, _, hT2, outL_set _ _ _, fun k hk => ?_⟩, ?_⟩
            · rcases hk with hk | hk | ⟨x, e2, hx, hk⟩
              · exact .inl (hS k (.inl hk))
              · exact .inl (hS k (.inr (.inl hk)))
              · rw [alGet_set] at hx
                split at hx
                · cases hx; have := hf1.size; refine .inr ?_; rcases hk with rfl | rfl <;> simp <;> omega
                · exact .inl (hS k (.inr (.inr ⟨x, e2, hx, hk⟩)))
            · exact ((((hf1.mono' (fun _ h => h.elim)).drew.alloc _).alloc _).putOb _ _ (.inl (hS m (.inr (.inl rfl)))))
          · have hg : (alGet (ptrL L) ((t : Int) + 1)).getD none = some q := by rw [get_ptrL, he]; rfl
            have HG := Lib.hid hg
            have hf2 : ∀ j : Int, 1 ≤ j → j < ((t + 1 : Nat) : Int) + 1 → alGet L j ≠ none := fun j h1 h2 => by
              by_cases hj : j < (t : Int) + 1
              · exact HF.out j h1 hj
              · have : j = (t : Int) + 1 := by omega
                rw [this, he]; simp
            have hb2 := low_bound L (t + 1) hf2
            have hL : L.length = n := by rw [HN.out, len_outL]
            have HF2 := Lib.hid hf2
            clear hg he hf2
            have ht2 : t + 1 ≤ n := by omega
            clear hL hb2
            go_wp2_with (at_lookup; go_must (refine wpList_look1 rfl _ _ _ rfl rfl ((t : Int) + 1) rfl key_ik Try.underlying66 none zeroPtr (hT.all.of rfl) (some q) HG.out ?_; simp only [ptrV, Option.map_some]))
            go_round
            case rel => exact ⟨t + 1, by go_num, ht2, HF2⟩
            case measure => simp [intOf]; omega
end
end Go.Proofs.Ytopfknikmhkaeaa
