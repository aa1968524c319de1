/- ring.Rows[int] in memory: New, Rows, is, Where. No conditions. -/
import Derived.Test.YtfcpodlbombimaaRgAI
import Derived.Test.YtfcpodlbombimaaKeyS
import Derived.Laws.MakeOwn
import Derived.Laws.OwnMore
namespace Go.Proofs.Ytfcpodlbombimaa
open Go.RowKit
set_option linter.unusedSimpArgs false
set_option linter.unusedVariables false
abbrev giI (n : Int) : Value := .int .i64 n
/-- The block of a Rows: its rows, its map. -/
structure RTI (w : World) (b r m : Nat) (vs : List Value) (L : List (List Int)) (W : List (Int × Int)) : Prop where
  blk : ob w b = some (.cells #[.slice (some ⟨r, 0, none⟩) L.length L.length, .map (some m)] 53 (0, 0))
  rows : ob w r = some (.cells vs.toArray 22 (0, 0))
  vlen : vs.length = L.length
  row : ∀ (i : Nat) v l, vs[i]? = some v → L[i]? = some l → SKI w v l
  sep : ∀ (i j : Nat) v u, vs[i]? = some v → vs[j]? = some u → i ≠ j → ∀ k, v.ownBlock = some k → u.ownBlock ≠ some k
  off : ∀ (i : Nat) v k, vs[i]? = some v → v.ownBlock = some k → k ≠ b ∧ k ≠ r
  br : b ≠ r
  all : MapIs kvI giI w m W
  pos : 0 < L.length
  few : L.length ≤ 64
/-- Its blocks. -/
def RSI (b r m : Nat) (vs : List Value) (k : Nat) : Prop := k = b ∨ k = r ∨ k = m ∨ ∃ v ∈ vs, v.ownBlock = some k
section
variable {w w1 : World} {b r m : Nat} {vs : List Value} {L : List (List Int)} {W : List (Int × Int)} {S : Nat → Prop}
theorem RTI.fr (h : RTI w b r m vs L W) (hf : Fr S w w1) (hn : ∀ k, S k → ¬ RSI b r m vs k) : RTI w1 b r m vs L W where
  blk := hf.keep (fun hs => hn _ hs (.inl rfl)) h.blk
  rows := hf.keep (fun hs => hn _ hs (.inr (.inl rfl))) h.rows
  vlen := h.vlen
  row i v l hv hl := (h.row i v l hv hl).fr hf (fun k hk hs => hn k hs (.inr (.inr (.inr ⟨v, List.mem_of_getElem? hv, hk⟩))))
  sep := h.sep
  off := h.off
  br := h.br
  all := h.all.of (hf.block m h.all.lt (fun hs => hn _ hs (.inr (.inr (.inl rfl)))))
  pos := h.pos
  few := h.few
theorem RTI.keep (h : RTI w b r m vs L W) (hf : Fr (fun _ => False) w w1) : RTI w1 b r m vs L W := h.fr hf (fun _ h => h.elim)
theorem RTI.lt (h : RTI w b r m vs L W) {k : Nat} (hk : RSI b r m vs k) : k < w.heap.size := by
  rcases hk with rfl | rfl | rfl | ⟨v, hv, hk⟩
  · exact ob_lt h.blk
  · exact ob_lt h.rows
  · exact h.all.lt
  · obtain ⟨i, hi, rfl⟩ := List.getElem_of_mem hv
    have hl : L[i]? = some (L[i]'(by rw [← h.vlen]; exact hi)) := List.getElem?_eq_getElem _
    exact Sl.lt (h.row i _ _ (List.getElem?_eq_getElem hi) hl) hk
end
theorem inforowI : (Try.prog.info? 22).map (fun i => (i.zero, i.size, i.bytes)) = some (some (.slice none 0 0), 1, 24) := by kernel_rfl
theorem vsnewI (n i : Nat) (v : Value) (h : (List.replicate n (Value.slice none 0 0))[i]? = some v) : v = .slice none 0 0 := List.eq_of_mem_replicate (List.mem_of_getElem? h)
theorem newI_any (n : Nat) (h0 : 1 ≤ n) (h1 : n ≤ 64) (w : World) :
    Calls Try.prog 10 #[.int .i64 n] w fun e w' => ∃ b r m vs, e = .returned (.pointer (some ⟨b, 0, none⟩)) ∧ RTI w' b r m vs (List.replicate n []) [] ∧ Fr (fun _ => False) w w' ∧ ∀ k, RSI b r m vs k → w.heap.size ≤ k := by
  obtain ⟨i0, hi, hz, hsz, hby⟩ := infoofI inforowI
  have hmk := run_make (P := Try.prog) (w := w) 50 22 i0 (.slice none 0 0) Try.underlying50 hi hz .i64 .i64 n n (by omega) (by omega) (by rw [hby]; omega) (by omega)
  have hmc : madeCells (Value.slice none 0 0).cells (n * 1) = (List.replicate n (Value.slice none 0 0)).toArray := by
    rw [← Array.toList_inj]
    show (madeCells #[.slice none 0 0] (n * 1)).toList = _
    rw [toList_madeCells_one]; simp
  simp only [Int.toNat_natCast, hsz, hmc] at hmk
  have hmm : ∀ w : World, (Instr.makeMap 51 none).run Try.prog w = .ok (.map (some w.heap.size)) (w.alloc (.map #[] 0)) := fun _ => rfl
  go_enter Try.func10, Try.ntmps10
  go_wp2
  go_ret
  have hf : Fr (fun _ => False) w (((w.alloc (.cells (Array.replicate n (.slice none 0 0)) 22)).alloc (.map #[] 0)).alloc (.cells #[.slice (some ⟨w.heap.size, 0, none⟩) n n, .map (some (w.heap.size + 1))] 53)) := (((Fr.refl _ w).alloc _).alloc _).alloc _
  refine ⟨w.heap.size + 1 + 1, w.heap.size, w.heap.size + 1, List.replicate n (.slice none 0 0), by simp, ⟨?_, ?_, ?_, ?_, ?_, ?_, ?_, ?_, ?_, ?_⟩, hf, ?_⟩
  · rw [ob_newAt _ _ _ (by simp)]; simp
  · rw [ob_alloc _ _ _ (by simp; omega), ob_alloc _ _ _ (by simp), ob_newAt _ _ _ rfl]; simp
  · simp
  · intro i v l hv hl
    rw [vsnewI n i v hv, show l = [] from List.eq_of_mem_replicate (List.mem_of_getElem? hl)]
    exact Sl.nil _ _ _
  · intro i j v u hv _ _ k hk
    rw [vsnewI n i v hv] at hk; cases hk
  · intro i v k hv hk
    rw [vsnewI n i v hv] at hk; cases hk
  · omega
  · have := MapIs.new (enc := kvI) (ev := giI) (w.alloc (.cells (Array.replicate n (.slice none 0 0)) 22))
    simp only [World.size_alloc] at this
    exact this.of (ob_alloc _ _ _ (by simp))
  · simp; omega
  · simp; omega
  · intro k hk
    rcases hk with rfl | rfl | rfl | ⟨v, hv, hk⟩
    · omega
    · omega
    · omega
    · rw [List.eq_of_mem_replicate hv] at hk; cases hk
/-! ### What is read -/
section
variable {w : World} {b r m : Nat} {vs : List Value} {L : List (List Int)} {W : List (Int × Int)}
theorem rowsI_any (h : RTI w b r m vs L W) : Calls Try.prog 34 #[.pointer (some ⟨b, 0, none⟩)] w fun e w' => e = .returned (.int .i64 L.length) ∧ w' = w := by
  have c0 : w.cell? ⟨b, 0, none⟩ = some (.slice (some ⟨r, 0, none⟩) L.length L.length) := cell_of_ob h.blk 0
  have hf := h.few
  go_enter Try.func34, Try.ntmps34
  go_wp2
  go_ret
  exact ⟨rfl, rfl⟩
theorem isI_any (h : RTI w b r m vs L W) (n : Int) : Calls Try.prog 42 #[.pointer (some ⟨b, 0, none⟩), .int .i64 n] w fun e w' => e = .returned (.bool (decide (0 ≤ n ∧ n < L.length))) ∧ w' = w := by
  obtain ⟨q, hq⟩ : ∃ q, decide (0 ≤ n ∧ n < (L.length : Int)) = q := ⟨_, rfl⟩
  rw [hq]
  go_enter Try.func42, Try.ntmps42
  go_wp2_with (go_at_call 34; refine (rowsI_any h).mono ?_; rintro e w1 ⟨rfl, rfl⟩)
  all_goals go_ret
  · exact ⟨by rw [← hq]; simp; omega, rfl⟩
  · exact ⟨by rw [← hq]; simp; omega, rfl⟩
/-- The row n. -/
def rowAtI (L : List (List Int)) (n : Int) : List Int := if 0 ≤ n then L[n.toNat]?.getD [] else []
theorem rowAtI_in {L : List (List Int)} {j : Nat} {l : List Int} (h : L[j]? = some l) : rowAtI L j = l := by unfold rowAtI; rw [if_pos (by omega), Int.toNat_natCast, h]; rfl
theorem rowAtI_out {L : List (List Int)} {n : Int} (h : ¬ (0 ≤ n ∧ n < L.length)) : rowAtI L n = [] := by
  unfold rowAtI
  split
  · rw [List.getElem?_eq_none (by omega)]; rfl
  · rfl
/-- What the walk wants of a row that there is. -/
theorem RTI.at (h : RTI w b r m vs L W) {j : Nat} (hj : j < L.length) : ∃ l A N C, L[j]? = some l ∧ vs[j]? = some (.slice A N C) ∧ SKI w (.slice A N C) l ∧ N = l.length ∧
    w.cell? ⟨b, 0, none⟩ = some (.slice (some ⟨r, 0, none⟩) L.length L.length) ∧ w.cell? ⟨b, 1, none⟩ = some (.map (some m)) ∧ w.cell? ⟨r, j, none⟩ = some (.slice A N C) ∧ (∀ i, w.frozen? ⟨r, i, none⟩ = false) ∧ L.length ≤ 64 := by
  obtain ⟨l, hl⟩ : ∃ l, L[j]? = some l := ⟨_, List.getElem?_eq_getElem (by omega)⟩
  obtain ⟨v, hv⟩ : ∃ v, vs[j]? = some v := ⟨_, List.getElem?_eq_getElem (by rw [h.vlen]; omega)⟩
  have hs := h.row j v l hv hl
  have hlen := SKI.elen hs
  obtain ⟨A, N, C, rfl⟩ := hs.shape
  exact ⟨l, A, N, C, hl, hv, hs, hlen, cell_of_ob h.blk 0, cell_of_ob h.blk 1, by rw [cell_of_ob h.rows]; simpa using hv, fun i => frozen_of_ob h.rows i, h.few⟩
theorem lenI_any (h : RTI w b r m vs L W) (n : Int) : Calls Try.prog 18 #[.pointer (some ⟨b, 0, none⟩), .int .i64 n] w fun e w' => e = .returned (.int .i64 (rowAtI L n).length) ∧ w' = w := by
  obtain ⟨q, hq⟩ : ∃ q, (rowAtI L n).length = q := ⟨_, rfl⟩
  rw [hq]
  have hq := Lib.hid hq
  go_enter Try.func18, Try.ntmps18
  go_wp2_with fail
  refine (isI_any h n).mono ?_
  rintro e w1 ⟨rfl, rfl⟩
  by_cases hn : 0 ≤ n ∧ n < L.length
  · obtain ⟨j, rfl⟩ : ∃ j : Nat, n = j := ⟨n.toNat, by omega⟩
    have hjL : j < L.length := by omega
    obtain ⟨l, A, N, C, hl, hv, hs, hN, c0, -, c1, -, hf⟩ := h.at hjL
    have hq2 : N = q := by rw [hN, ← hq.out, rowAtI_in hl]
    subst hq2
    rw [decide_eq_true hn]
    clear hn hN
    go_wp2
    go_ret
    exact ⟨rfl, rfl⟩
  · obtain rfl : 0 = q := by rw [← hq.out, rowAtI_out hn]; rfl
    rw [decide_eq_false hn]
    clear hn
    go_wp2
    go_ret
    exact ⟨rfl, rfl⟩
theorem keyokI : KeyOK Try.prog 3 kvI := by
  first
  | exact KeyOK.int Try.underlying3
  | exact KeyOK.string Try.underlying3
theorem whereI_any (h : RTI w b r m vs L W) (x : Int) : Calls Try.prog 23 #[.pointer (some ⟨b, 0, none⟩), Value.int .i64 x] w fun e w' => e = .returned (.tuple #[.int .i64 ((alGet W x).getD 0), .bool (alGet W x).isSome]) ∧ w' = w := by
  obtain ⟨q, hq⟩ : ∃ q, (alGet W x).getD 0 = q := ⟨_, rfl⟩
  obtain ⟨ok, hok⟩ : ∃ q, (alGet W x).isSome = q := ⟨_, rfl⟩
  rw [hq, hok]
  have c1 : w.cell? ⟨b, 1, none⟩ = some (.map (some m)) := cell_of_ob h.blk 1
  have hp := h.pos
  have hf := h.few
  have HQ := Lib.hid hq
  have HOK := Lib.hid hok
  clear hq hok
  go_enter Try.func23, Try.ntmps23
  go_wp2_with fail
  refine (rowsI_any h).mono ?_
  rintro e w1 ⟨rfl, rfl⟩
  go_wp2_with (at_lookup; go_must (refine wpList_look2 rfl _ _ _ rfl rfl x rfl keyokI Try.underlying51 (0 : Int) Try.zeroValue3 h.all q ok HQ.out HOK.out ?_; simp only [giI]))
  go_wp2
  go_ret2
  exact ⟨rfl, rfl⟩
end
end Go.Proofs.Ytfcpodlbombimaa
