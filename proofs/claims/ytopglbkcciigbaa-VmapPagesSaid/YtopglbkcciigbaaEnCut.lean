/- entry.Cut. Conditions: a right list of at most 400 entries. -/
import Derived.Test.YtopglbkcciigbaaEnDel
import Derived.Test.YtopglbkcciigbaaEnClip
namespace Go.Proofs.Ytopglbkcciigbaa
open Go.RowKit
set_option linter.unusedSimpArgs false
set_option linter.unusedVariables false
def leftL (l : List Ent) (lo hi : Int) : List Ent := (clipL (clipL l lo) hi).filter (fun x => !inB lo hi x)
def goneL (l : List Ent) (lo hi : Int) : List Ent := (clipL (clipL l lo) hi).filter (inB lo hi)
theorem rightB_filter (p : Ent → Bool) : ∀ {l : List Ent} {last : Int}, rightB last l = true → rightB last (l.filter p) = true
  | [], _, _ => rfl
  | x :: l, last, h => by
    rw [rightB_cons] at h
    have ih := rightB_filter p h.2.2
    rw [List.filter_cons]
    split
    · rw [rightB_cons]; exact ⟨h.1, h.2.1, ih⟩
    · exact rightB_mono ih (by have := (goodE_of h.1).se; omega)
theorem right_left {l : List Ent} (lo hi : Int) (h : rightB 0 l = true) : rightB 0 (leftL l lo hi) = true := rightB_filter _ (rightB_clip hi (rightB_clip lo h))
theorem right_gone {l : List Ent} (lo hi : Int) (h : rightB 0 l = true) : rightB 0 (goneL l lo hi) = true := rightB_filter _ (rightB_clip hi (rightB_clip lo h))
theorem clip2_len {l : List Ent} (lo hi : Int) (h : rightB 0 l = true) : (clipL (clipL l lo) hi).length ≤ l.length + 2 := by
  have h1 := (clipL_len lo h).2
  have h2 := (clipL_len hi (rightB_clip lo h)).2
  omega
theorem left_len {l : List Ent} (lo hi : Int) (h : rightB 0 l = true) : (leftL l lo hi).length ≤ l.length + 2 := Nat.le_trans (List.length_filter_le _ _) (clip2_len lo hi h)
theorem gone_len {l : List Ent} (lo hi : Int) (h : rightB 0 l = true) : (goneL l lo hi).length ≤ l.length + 2 := Nat.le_trans (List.length_filter_le _ _) (clip2_len lo hi h)
set_option maxRecDepth 100000 in
set_option maxHeartbeats 4000000 in
theorem cut_any' {w : World} {v : Value} {l : List Ent} (h : Rd w 10 v (l.flatMap ent)) (hl : l.length ≤ 400) (hr : rightB 0 l = true) (lo hi : Int) :
    Calls Try.prog 36 #[v, .int .i64 lo, .int .i64 hi] w fun e w' => ∃ v1 v2, e = .returned (.tuple #[v1, v2]) ∧ SE w' v1 (leftL l lo hi) ∧ SE w' v2 (goneL l lo hi) ∧ Fr (fun _ => False) w w' ∧ (∀ k, v1.ownBlock = some k → w.heap.size ≤ k) ∧ (∀ k, v2.ownBlock = some k → w.heap.size ≤ k) ∧ ∀ k, v1.ownBlock = some k → v2.ownBlock ≠ some k := by
  have hc1 := (clipL_len lo hr).2
  have hrc := rightB_clip lo hr
  have hl2 := clip2_len lo hi hr
  have HR := Lib.hid hr
  have HRC := Lib.hid hrc
  have HC1 := Lib.hid hc1
  have HL2 := Lib.hid hl2
  clear hr hrc hc1 hl2
  obtain ⟨W, hW⟩ : ∃ W, W = (w.alloc (.cells #[.int .i64 lo] 3)).alloc (.cells #[.int .i64 hi] 3) := ⟨_, rfl⟩
  obtain ⟨ba, hba⟩ : ∃ ba, ba = w.heap.size := ⟨_, rfl⟩
  obtain ⟨bb, hbb⟩ : ∃ bb, bb = w.heap.size + 1 := ⟨_, rfl⟩
  have oa : ob W ba = some (.cells #[.int .i64 lo] 3 (0, 0)) := by rw [hW, hba, ob_alloc _ _ _ (by simp only [World.size_alloc]; omega), ob_new]
  have obb : ob W bb = some (.cells #[.int .i64 hi] 3 (0, 0)) := by rw [hW, hbb, ob_newAt _ _ _ (by simp)]
  have hfW : Fr (fun _ => False) w W := by rw [hW]; exact ((Fr.refl _ w).alloc _).alloc _
  have hWs : W.heap.size = w.heap.size + 2 := by rw [hW]; simp
  have hRW := h.of hfW (fun _ h => h.elim)
  have key : ∀ w3, Fr (fun _ => False) W w3 → (w3.cell? ⟨ba, 0, none⟩ = some (.int .i64 lo) ∧ w3.cell? ⟨bb, 0, none⟩ = some (.int .i64 hi)) ∧ ba < w3.heap.size ∧ bb < w3.heap.size := fun w3 hf3 => by
    have o3 := hf3.keep (fun h => h) oa
    have o4 := hf3.keep (fun h => h) obb
    exact ⟨⟨cell_of_ob o3 0, cell_of_ob o4 0⟩, ob_lt o3, ob_lt o4⟩
  obtain ⟨hS0, sa0, sb0⟩ := key W (Fr.refl _ _)
  have KEY := Lib.hid key
  clear key
  obtain ⟨A, N, C, rfl⟩ := h.shape
  go_enter Try.func36, Try.ntmps36
  go_wp2_with fail
  change Code.wp _ _ _ _ ((w.alloc (.cells #[.int .i64 lo] 3)).alloc (.cells #[.int .i64 hi] 3))
  rw [← hW, ← hbb, ← hba]
  have HWS := Lib.hid hWs
  have HBA := Lib.hid hba
  have HBB := Lib.hid hbb
  have OA := Lib.hid oa
  have OBB := Lib.hid obb
  have HFW := Lib.hid hfW
  clear hW hba hbb h hWs oa obb hfW
  go_region_held3 (fun w' => w'.cell? ⟨ba, 0, none⟩ = some (.int .i64 lo) ∧ w'.cell? ⟨bb, 0, none⟩ = some (.int .i64 hi)) (first | exact hS0 | assumption | go_keep)
    (first
      | (go_at_call_of 46 (Value.slice A N C); refine (clip_any (hRW.of (Fr.refl (fun _ => False) W).drew (fun _ h => h.elim)) (by omega) HR.out lo).mono ?_; rintro e w2 ⟨v2, rfl, hs2, hf2, ho2⟩; have hf2' := ((Fr.refl (fun _ => False) W).drew).also hf2; obtain ⟨hS2, sa2, sb2⟩ := KEY.out w2 hf2')
      | (go_at_call 46; refine (clip_any (Sl.rd hs2) (by have := HC1.out; omega) HRC.out hi).mono ?_; rintro e w3 ⟨v3, rfl, hs3, hf3, ho3⟩; have hf3' := hf2'.also hf3; obtain ⟨hS3, sa3, sb3⟩ := KEY.out w3 hf3'))
  have og : ob (w3.alloc (.cells #[.slice none 0 0] 31)) w3.heap.size = some (.cells #[.slice none 0 0] 31 (0, 0)) := ob_new _ _
  have hf4 : Fr (fun _ => False) W (w3.alloc (.cells #[.slice none 0 0] 31)) := hf3'.alloc _
  have hs4 : SE (w3.alloc (.cells #[.slice none 0 0] 31)) v3 (clipL (clipL l lo) hi) := Sl.alloc hs3 _
  have hcs : CutS (w3.alloc (.cells #[.slice none 0 0] 31)) (w3.alloc (.cells #[.slice none 0 0] 31)) ba bb w3.heap.size lo hi none [] :=
    ⟨hf4.keep (fun h => h) OA.out, hf4.keep (fun h => h) OBB.out, ⟨.slice none 0 0, og, Sl.nil _ _ _, rfl⟩, (fun k hk => by cases hk), ⟨by simp; omega, by simp; omega, by simp, by omega, by omega⟩, Nat.le_refl _⟩
  have hw2 : W.heap.size ≤ w2.heap.size := hf2'.size
  have hdel := delete_any hcs hs4 (fun k hk => by
    have h1 := ho3 k hk
    have h2 := Sl.lt hs3 hk
    have h3 := HWS.out
    have h4 := HBA.out
    have h5 := HBB.out
    refine ⟨by simp; omega, by omega, by omega, by omega⟩) (by have := HL2.out; omega)
  have HO3 := Lib.hid ho3
  have HL3 := Lib.hid (show ∀ k, v3.ownBlock = some k → k < w3.heap.size from fun k hk => Sl.lt hs3 hk)
  clear hS0 sa0 sb0 hS2 sa2 sb2 hS3 og hs4 hcs ho3 ho2 hs2
  go_wp2_with fail
  refine hdel.mono ?_
  rintro e w5 ⟨v5, rfl, hs5, ⟨gb, hc5⟩, hf5, ho5⟩
  clear hdel
  obtain ⟨-, -, ⟨gv, og5, hsg, hgb⟩, hown, -, -⟩ := hc5
  obtain ⟨B, M, D, rfl⟩ := hsg.shape
  have c5 : w5.cell? ⟨w3.heap.size, 0, none⟩ = some (.slice B M D) := cell_of_ob og5 0
  have s5 := ob_lt og5
  have hW0 : w.heap.size ≤ W.heap.size := by have := HWS.out; omega
  have hf05 : Fr (fun _ => False) w w5 := (HFW.out.also hf4).step hf5 (fun k hk => .inr (by
    have h1 := hf3'.size
    rcases hk with hk | hk | hk
    · omega
    · have := HO3.out k hk; omega
    · simp at hk; omega))
  have hres1 : ∀ k, v5.ownBlock = some k → w.heap.size ≤ k := fun k hk => by
    have := HO3.out k (ho5 ▸ hk); omega
  have hres2 : ∀ k, (Value.slice B M D).ownBlock = some k → w.heap.size ≤ k := fun k hk => by
    have h1 := (hown k (hgb ▸ hk)).1
    have h2 := hf3'.size
    simp at h1; omega
  have hres3 : ∀ k, v5.ownBlock = some k → (Value.slice B M D).ownBlock ≠ some k := fun k hk hk2 => by
    have h1 := (hown k (hgb ▸ hk2)).1
    have h2 := HL3.out k (ho5 ▸ hk)
    simp at h1; omega
  clear og5 hf5 ho5 hown hgb
  go_wp2_with fail
  go_quiet (fail)
  go_wp2
  go_ret2
  exact ⟨v5, .slice B M D, rfl, Sl.of hs5 (fun _ _ => rfl), Sl.of hsg (fun _ _ => rfl), ⟨hf05.os, hf05.tape, hf05.output, hf05.size, hf05.block⟩, hres1, hres2, hres3⟩
theorem cut_any {w : World} {v : Value} {l : List Ent} (h : Rd w 10 v (l.flatMap ent)) (hl : l.length ≤ 400) (hr : rightB 0 l = true) (lo hi : Int) :
    Calls Try.prog 36 #[v, .int .i64 lo, .int .i64 hi] w fun e w' => ∃ v1 v2, e = .returned (.tuple #[v1, v2]) ∧ SE w' v1 (leftL l lo hi) ∧ SE w' v2 (goneL l lo hi) ∧ Fr (fun _ => False) w w' ∧ (∀ k, v1.ownBlock = some k → w.heap.size ≤ k) ∧ (∀ k, v2.ownBlock = some k → w.heap.size ≤ k) :=
  (cut_any' h hl hr lo hi).mono fun e w' ⟨v1, v2, h1, h2, h3, h4, h5, h6, _⟩ => ⟨v1, v2, h1, h2, h3, h4, h5, h6⟩
end Go.Proofs.Ytopglbkcciigbaa
