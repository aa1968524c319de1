/- tlb.Table over a base world; the document's examples ('lives'). -/
import Derived.Test.YtehgfhcpjeepkaaTabE
namespace Go.Proofs.Ytehgfhcpjeepkaa
open Go.RowKit
set_option linter.unusedSimpArgs false
set_option linter.unusedVariables false
/-- A table that has turned since W1 in its own blocks alone. -/
def TabX (W1 w : World) (b : Nat) (n : Int) (m : Nat) (l : List (K2 × K2)) : Prop :=
  ∃ kv, Tab w b n kv m l ∧ (∀ q, kv.ownBlock = some q → W1.heap.size ≤ q) ∧ Fr (fun k => k = b ∨ k = m) W1 w ∧ (l.map (·.1)).Nodup ∧ l.length ≤ 50000
section
variable {W1 w w1 : World} {b m : Nat} {n : Int} {l : List (K2 × K2)}
theorem TabX.new (h : Tab w b n (.slice none 0 0) m []) : TabX w w b n m [] := ⟨_, h, fun q hq => (by cases hq), Fr.refl _ _, by simp, by simp⟩
theorem TabX.fr (h : TabX W1 w b n m l) : Fr (fun k => k = b ∨ k = m) W1 w := let ⟨_, _, _, h, _⟩ := h; h
theorem TabX.nd (h : TabX W1 w b n m l) : (l.map (·.1)).Nodup := let ⟨_, _, _, _, h, _⟩ := h; h
theorem TabX.keep (h : TabX W1 w b n m l) (hf : Fr (fun _ => False) w w1) : TabX W1 w1 b n m l :=
  let ⟨kv, h1, h2, h3, h4⟩ := h
  ⟨kv, h1.fr hf (fun _ _ h => h), h2, h3.step hf (fun _ h => h.elim), h4⟩
theorem TabX.alloc (h : TabX W1 w b n m l) (o : Obj) : TabX W1 (w.alloc o) b n m l := h.keep ((Fr.refl _ _).alloc o)
theorem TabX.drew (h : TabX W1 w b n m l) : TabX W1 w.drew b n m l := h.keep (Fr.refl _ w).drew
theorem TabX.flushed {l2 : List (K2 × K2)} (h : TabX W1 w b n m l) (hf : Flushed w b n m l2 w1) (hs : (l2.map (·.1)).Nodup) (hl : l2.length ≤ 50000) : TabX W1 w1 b n m l2 :=
  let ⟨kv, h1, h2, h3, h4, h5⟩ := h
  let ⟨kv', g1, g2, g3⟩ := hf
  ⟨kv', g1, fun q hq => Nat.le_trans h3.size (g3 q hq), h3.step g2 (fun _ h => .inl h), hs, hl⟩
theorem nodup_filter {p : K2 × K2 → Bool} (h : (l.map (·.1)).Nodup) : ((l.filter p).map (·.1)).Nodup := h.sublist (List.filter_sublist.map _)
theorem putX (h : TabX W1 w b n m l) (k e : K2) (hb : ((tput n l k e).length ≤ 50000)) :
    Calls Try.prog 9 #[.pointer (some ⟨b, 0, none⟩), .agg #[.int .i64 k.1, .int .i64 k.2], .agg #[.int .i64 e.1, .int .i64 e.2]] w fun en w' =>
      en = .returned (.tuple #[]) ∧ TabX W1 w' b n m (tput n l k e) := by
  obtain ⟨kv, h1, h2, h3, h4, h5⟩ := h
  refine (put_any h1 h4 (by omega) k e).mono ?_
  rintro en w' ⟨rfl, kv', g1, g2, g3⟩
  refine ⟨rfl, kv', g1, fun q hq => (g3 q hq).elim (h2 q) (fun h => Nat.le_trans h3.size h), h3.step g2 (fun k hk => ?_), tput_nodup n l k e h4, hb⟩
  rcases hk with h | h | h
  · exact .inl (.inl h)
  · exact .inl (.inr h)
  · exact .inr (h2 _ h)
theorem findX (h : TabX W1 w b n m l) (k : K2) :
    Calls Try.prog 21 #[.pointer (some ⟨b, 0, none⟩), .agg #[.int .i64 k.1, .int .i64 k.2]] w fun e w' =>
      e = .returned (.tuple #[k2 ((alGet l k).getD (0, 0)), .bool (alGet l k).isSome]) ∧ TabX W1 w' b n m l ∧ Fr (fun _ => False) w w' := by
  obtain ⟨kv, h1, hx⟩ := id h
  refine (find_any h1 k).mono ?_
  rintro e w' ⟨rfl, hf⟩
  exact ⟨rfl, h.keep hf, hf⟩
theorem lenX (h : TabX W1 w b n m l) : Calls Try.prog 12 #[.pointer (some ⟨b, 0, none⟩)] w fun e w' => e = .returned (.int .i64 l.length) ∧ w = w' := by
  obtain ⟨kv, h1, hx⟩ := h
  exact len_any h1
theorem keysX (h : TabX W1 w b n m l) : Calls Try.prog 10 #[.pointer (some ⟨b, 0, none⟩)] w fun e w' =>
    ∃ v', e = .returned v' ∧ Sl w' 27 2 v' ((l.map (·.1)).flatMap k2s) ∧ TabX W1 w' b n m l ∧ Fr (fun _ => False) w w' ∧ ∀ k, v'.ownBlock = some k → w.heap.size ≤ k := by
  obtain ⟨kv, h1, h2, h3, h4, h5⟩ := id h
  have c1 : w.cell? ⟨b, 1, none⟩ = some kv := cell_of_ob h1.blk 1
  go_enter Try.func10, Try.ntmps10
  go_wp2_with fail
  refine (clone_any h1.keys (by simp; omega)).mono ?_
  rintro e w1 ⟨v', rfl, hs, hf, ho⟩
  go_wp2
  go_ret
  exact ⟨v', rfl, hs, h.keep hf, hf, ho⟩
theorem flushAsidX (h : TabX W1 w b n m l) (x : Int) :
    Calls Try.prog 11 #[.pointer (some ⟨b, 0, none⟩), .int .i64 x] w fun e w' =>
      e = .returned (.int .i64 (l.length - (l.filter (fun y => !(y.1.1 == x))).length)) ∧ TabX W1 w' b n m (l.filter (fun y => !(y.1.1 == x))) := by
  obtain ⟨kv, h1, h2, h3, h4, h5⟩ := id h
  refine (flushAsid_any h1 h4 (by omega) x).mono ?_
  rintro e w' ⟨rfl, hf⟩
  exact ⟨rfl, h.flushed hf (nodup_filter h4) (Nat.le_trans (List.length_filter_le _ _) h5)⟩
theorem flushAllX (h : TabX W1 w b n m l) :
    Calls Try.prog 14 #[.pointer (some ⟨b, 0, none⟩)] w fun e w' => e = .returned (.int .i64 l.length) ∧ TabX W1 w' b n m [] := by
  obtain ⟨kv, h1, h2, h3, h4, h5⟩ := id h
  refine (flushAll_any h1 h4 (by omega)).mono ?_
  rintro e w' ⟨rfl, hf⟩
  exact ⟨rfl, h.flushed hf (by simp) (by simp)⟩
theorem flushX (h : TabX W1 w b n m l) (x : K2) :
    Calls Try.prog 17 #[.pointer (some ⟨b, 0, none⟩), .agg #[.int .i64 x.1, .int .i64 x.2]] w fun e w' =>
      e = .returned (.bool (decide ((0 : Int) < l.length - (l.filter (fun y => !(k2eq y.1.1 y.1.2 x.1 x.2))).length))) ∧ TabX W1 w' b n m (l.filter (fun y => !(k2eq y.1.1 y.1.2 x.1 x.2))) := by
  obtain ⟨kv, h1, h2, h3, h4, h5⟩ := id h
  refine (flush_any h1 h4 (by omega) x).mono ?_
  rintro e w' ⟨rfl, hf⟩
  exact ⟨rfl, h.flushed hf (nodup_filter h4) (Nat.le_trans (List.length_filter_le _ _) h5)⟩
end
/-- What the example puts, and what is there behind so many. -/
def exKs : List K2 := [(1, 0), (2, 0), (1, 0), (3, 0)]
def exL (j : Nat) : List (K2 × K2) := (exKs.take j).foldl (fun l k => tput 2 l k (0, k.1)) []
theorem exL_succ (j : Nat) (k : K2) (h : exKs[j]? = some k) : exL (j + 1) = tput 2 (exL j) k (0, k.1) := by
  unfold exL
  rw [List.take_add_one, h]
  simp
set_option maxHeartbeats 1000000 in
theorem lives_any (w : World) : Calls Try.prog 13 #[] w fun e w' => e = .returned (.bool true) ∧ Fr (fun _ => False) w w' := by
  go_enter Try.func13, Try.ntmps13
  go_wp2_with fail
  refine (new_any 2 (by omega) (by omega) w).mono ?_
  rintro e w1 ⟨b, m, rfl, hT, hf1, hb, hm⟩
  go_wp2_with fail
  obtain ⟨W, hW⟩ : ∃ W, W = (((w1.alloc (.cells #[.int .i64 1, .int .i64 0] 27)).alloc (.cells #[.int .i64 2, .int .i64 0] 27)).alloc (.cells #[.int .i64 3, .int .i64 0] 27)).alloc
    (.cells #[.int .i64 1, .int .i64 0, .int .i64 2, .int .i64 0, .int .i64 1, .int .i64 0, .int .i64 3, .int .i64 0] 27) := ⟨_, rfl⟩
  rw [← hW]
  have hsz : W.heap.size = w1.heap.size + 4 := by rw [hW]; simp
  have hfr : Fr (fun _ => False) w1 W := by rw [hW]; exact ((((Fr.refl _ _).alloc _).alloc _).alloc _).alloc _
  have oa : ob W w1.heap.size = some (.cells #[.int .i64 1, .int .i64 0] 27 (0, 0)) := by
    rw [hW, ob_alloc _ _ _ (by simp only [World.size_alloc]; omega), ob_alloc _ _ _ (by simp only [World.size_alloc]; omega), ob_alloc _ _ _ (by simp only [World.size_alloc]; omega), ob_new]
  have oB : ob W (w1.heap.size + 1) = some (.cells #[.int .i64 2, .int .i64 0] 27 (0, 0)) := by
    rw [hW, ob_alloc _ _ _ (by simp only [World.size_alloc]; omega), ob_alloc _ _ _ (by simp only [World.size_alloc]; omega), ob_newAt _ _ _ (by simp)]
  have oR : ob W (w1.heap.size + 1 + 1 + 1) = some (.cells (exKs.flatMap k2s).toArray 27 (0, 0)) := by
    rw [hW, ob_newAt _ _ _ (by simp)]; rfl
  have hT1 : TabX W W b 2 m [] := TabX.new (hT.fr hfr (fun _ _ h => h))
  have hbW : b < w1.heap.size := hT.lt
  have hmW : m < w1.heap.size := hT.mlt
  have hszL : w1.heap.size + 1 + 1 + 1 < W.heap.size := by omega
  have hfrW : Fr (fun _ => False) w W := hf1.step hfr (fun _ h => h.elim)
  clear hW hsz hT
  go_loopw [23] (fun i wr => ∃ j : Nat, j ≤ 4 ∧ i = .int .i64 j ∧ TabX W wr b 2 m (exL j)) (fun i _ => 4 - (intOf i).toNat)
  case atStart => exact ⟨0, by omega, rfl, hT1⟩
  case round =>
    obtain ⟨j, hj, rfl, hx⟩ := hrel
    have hfx := hx.fr
    by_cases hlt : j < 4
    · obtain ⟨k, hk⟩ : ∃ k, exKs[j]? = some k := ⟨_, List.getElem?_eq_getElem (by simpa [exKs] using hlt)⟩
      obtain ⟨hg0, hg1⟩ := flat_get exKs j k hk
      have oRr := hfx.keep (by simp; omega) oR
      have hc0 : wr.cell? ⟨w1.heap.size + 1 + 1 + 1, j * 2, none⟩ = some (.int .i64 k.1) := by rw [cell_of_ob oRr]; simpa using hg0
      have hc1 : wr.cell? ⟨w1.heap.size + 1 + 1 + 1, j * 2 + 1, none⟩ = some (.int .i64 k.2) := by rw [cell_of_ob oRr]; simpa using hg1
      have hjI : (j : Int) < 4 := by omega
      have hszr : w1.heap.size + 1 + 1 + 1 < wr.heap.size := by have := hfx.size; omega
      have HL := Lib.hid (exL_succ j k hk)
      clear hk hg0 hg1 oRr
      go_wp2_with fail
      refine (putX (hx.alloc _) k (0, k.1) ?_).mono ?_
      · rw [← HL.out]; have : ∀ j, j < 4 → (exL (j + 1)).length ≤ 50000 := by decide
        exact this j hlt
      rintro e w2 ⟨rfl, hx2⟩
      go_wp2
      go_roundw
      case rel => exact ⟨j + 1, by omega, by go_num, by rw [HL.out]; exact hx2⟩
      case measure => simp [intOf]; omega
    · have hjI : ¬ (j : Int) < 4 := by omega
      obtain rfl : j = 4 := by omega
      have hL : exL 4 = [((2, 0), (0, 2)), ((3, 0), (0, 3))] := by decide
      rw [hL] at hx
      have ca0 : wr.cell? ⟨w1.heap.size, 0, none⟩ = some (.int .i64 1) := cell_of_ob (hfx.keep (by simp; omega) oa) 0
      have ca1 : wr.cell? ⟨w1.heap.size, 1, none⟩ = some (.int .i64 0) := cell_of_ob (hfx.keep (by simp; omega) oa) 1
      have hszr : w1.heap.size + 1 + 1 + 1 < wr.heap.size := by have := hfx.size; omega
      go_wp2_with fail
      refine (findX hx (1, 0)).mono ?_
      rintro e w2 ⟨rfl, hx2, hf2⟩
      have e1 : (alGet ([((2, 0), (0, 2)), ((3, 0), (0, 3))] : List (K2 × K2)) (1, 0)) = none := by decide
      rw [e1]
      simp only [k2, Option.getD_none, Option.isSome_none]
      have hfx2 := hx2.fr
      have cb0 : w2.cell? ⟨w1.heap.size + 1, 0, none⟩ = some (.int .i64 2) := cell_of_ob (hfx2.keep (by simp; omega) oB) 0
      have cb1 : w2.cell? ⟨w1.heap.size + 1, 1, none⟩ = some (.int .i64 0) := cell_of_ob (hfx2.keep (by simp; omega) oB) 1
      have hszr2 : w1.heap.size + 1 < w2.heap.size := by have := hf2.size; omega
      clear e1 ca0 ca1
      go_wp2_with fail
      refine (findX (hx2.alloc _) (2, 0)).mono ?_
      rintro e w3 ⟨rfl, hx3, hf3⟩
      have e2 : (alGet ([((2, 0), (0, 2)), ((3, 0), (0, 3))] : List (K2 × K2)) (2, 0)) = some (0, 2) := by decide
      rw [e2]
      simp only [k2, Option.getD_some, Option.isSome_some]
      clear e2 cb0 cb1
      go_wp2_with fail
      refine (lenX (hx3.alloc _)).mono ?_
      rintro e w4 ⟨rfl, rfl⟩
      go_wp2
      go_ret
      exact ⟨rfl, hfrW.step ((hx3.alloc _).fr) (fun k hk => by rcases hk with rfl | rfl <;> simp <;> omega)⟩
end Go.Proofs.Ytehgfhcpjeepkaa
