/- object.Pool: Ids, Of. Conditions: at most 4096 objects, whose numbers are numbers of the kind. -/
import Derived.Test.YtopfknikmhkaeaaObIter
import Derived.Test.YtopfknikmhkaeaaKeysSorted
import Derived.Test.YtopfknikmhkaeaaObC
namespace Go.Proofs.Ytopfknikmhkaeaa
open Go.RowKit
set_option linter.unusedSimpArgs false
set_option linter.unusedVariables false
attribute [local go_sem] Oper.semAt_some
abbrev ints (l : List Int) : List Value := l.map (Value.int .i64)
/-- slices.Sort's two contracts here. -/
theorem sortsA (m : Nat) : AnyZI.SortsIn Try.prog sortedA_ren Fence.wide m :=
  ⟨fun blk off cap ss W hH hblk hsz => callsIn_wide.2 (AnyM.slices_Sort_int sortA blk off cap ss W hH hblk hsz),
   fun p cap W => callsIn_wide.2 (AnyM.slices_Sort_int_none sortA p cap W)⟩
/-- The keys, in order. -/
def idsOf {α : Type} (l : List (Int × α)) : List Int := sortI (l.map (·.1))
theorem idsOf_perm {α : Type} (l : List (Int × α)) : (idsOf l).Perm (l.map (·.1)) := sortI_perm _
theorem idsOf_len {α : Type} (l : List (Int × α)) : (idsOf l).length = l.length := by have := (idsOf_perm l).length_eq; simpa using this
structure ObKeys {α : Type} (l : List (Int × α)) : Prop where
  wf : ∀ k ∈ l.map (·.1), wf64 k
  few : l.length ≤ 4096
def ofR (l : List (Int × Obt)) (file : Int) : Int := ((idsOf l).find? fun id => decide (0 < file) && decide (fileR l id = file)).getD 0
section
variable {w w1 : World} {b m : Nat} {most : Int} {L : List (Int × Ent)} {l : List (Int × Obt)} {S : Nat → Prop}
set_option maxRecDepth 100000 in
set_option maxHeartbeats 2000000 in
theorem ids_any (h : ObX b most l w S) (hk : ObKeys l) :
    Calls Try.prog 18 #[.pointer (some ⟨b, 0, none⟩)] w fun e w' => ∃ A N C, e = .returned (.slice A N C) ∧ Sl w' 3 1 (.slice A N C) (ints (idsOf l)) ∧ (∀ k, (Value.slice A N C).ownBlock = some k → w.heap.size ≤ k) ∧ Fr (fun _ => False) w w' := by
  obtain ⟨m, L, hT, rfl, hS⟩ := h
  have c2 : w.cell? ⟨b, 2, none⟩ = some (.map (some m)) := cell_of_ob hT.blk 2
  have hlen : (ptrL L).length = (outL L).length := by simp [ptrL, outL]
  obtain ⟨D0, hown, hD1, hD2⟩ := mapis_owns Try.underlying3 (ev := ptrV) hT.all (by rw [keys_ptrL]; exact hT.nodup) (by rw [keys_ptrL, ← keys_outL]; exact hk.wf) (by have := hk.few; unfold maxLen; omega)
  have hmax : Maps.size D0 ≤ maxLen := by have := hk.few; unfold maxLen; omega
  have hbytes : Maps.size D0 * 8 ≤ 140737488355328 := by have := hk.few; omega
  have hbl := hown.lt
  have hmade := made_any hT
  refine (callsIn_wide (n := 6)).1 ?_
  have hseq : SeqGives Fence.wide 2 Try.prog 42 #[.pointer (some ⟨w.heap.size, 0, none⟩)] encZ (fun ss => ss.Perm (intKeys D0)) (Maps.size D0) (w.alloc (.cells #[.map (some m)] 66)) :=
    AnyZI.keys_gives (ρ := keysA_ren) { keysA with } Fence.wide _ trivial rfl (by omega) w.heap.size m (ptrL L).length D0 _ (by simp) (by simp) (by
      obtain ⟨es, clock, hb, Ft, hs, hD⟩ := hown
      exact ⟨es, clock, (Below.heap_alloc _ _ m hbl).trans hb, Ft, hs, hD⟩)
  have cK : ∀ mb W, CallsIn Fence.wide 5 Try.prog 35 #[.map mb] W fun e w' => e = .returned (.func (.func 42) #[] #[.pointer (some ⟨W.heap.size, 0, none⟩)]) ∧ w' = W.alloc (.cells #[.map mb] 66) := fun mb W => AnyZI.keys_in keysA Fence.wide 5 trivial rfl mb W
  have cS := AnyZI.sorted_in sortedA Fence.wide 5 trivial trivial trivial trivial rfl (by omega) (sortsA _) (enters_of Try.func41 (by kernel_rfl) rfl) 42 #[.pointer (some ⟨w.heap.size, 0, none⟩)] trivial (enters_of Try.func42 (by kernel_rfl) rfl) _ _ hmax hbytes _ hseq
  change CallsIn _ _ Try.prog 34 _ _ _ at cS
  have hfK : Fence.wide.fn 35 := trivial
  have hfS : Fence.wide.fn 34 := trivial
  have hfM : Fence.wide.fn 31 := trivial
  have hbl2 := hT.lt
  refine callsIn_of_wp Try.func18 rfl trivial ?_ rfl
  simp only [Try.ntmps18, List.size_toArray, List.length_cons, List.length_nil, Nat.reduceAdd, Nat.reduceSub, Array.replicate_succ, Array.replicate_zero, List.push_toArray, List.append_toArray, List.nil_append, List.cons_append]
  gi_wp2_with (first
    | (gi_at_call 31; refine (callsIn_wide.2 hmade).mono ?_; rintro e w' ⟨rfl, rfl⟩)
    | (gi_at_call 35; refine (cK _ _).mono ?_; rintro e w' ⟨rfl, rfl⟩)
    | (gi_at_call 34; refine cS.mono ?_; rintro e w' ⟨v, ss, rfl, hS, hrow, hnil, hb⟩))
  go_ret
  obtain ⟨hsl, hob⟩ := owns_sl hrow
  obtain ⟨A, N, C, rfl⟩ := hsl.shape
  have e1 : (ss.mergeSort (fun x y => decide (x ≤ y))).map encZ = ints (idsOf (outL L)) := by
    show (sortI ss).map (Value.int .i64) = (sortI _).map (Value.int .i64)
    rw [sortI_of_perm ((hS.trans hD1).trans (List.Perm.of_eq ((keys_ptrL L).trans (keys_outL L).symm)))]
  rw [e1] at hsl
  refine ⟨A, N, C, rfl, hsl, fun k hk => ?_, ?_⟩
  · have := hob k hk; simp at this; omega
  · exact ((Fr.refl _ w).alloc _).step (Fr.of_below hb) (fun _ h => h.elim)
set_option maxRecDepth 100000 in
set_option maxHeartbeats 2000000 in
theorem of2_any (h : ObX b most l w S) (hk : ObKeys l) (file : Int) :
    Calls Try.prog 14 #[.pointer (some ⟨b, 0, none⟩), .int .i64 file] w fun e w' => e = .returned (.int .i64 (ofR l file)) ∧ Fr (fun _ => False) w w' := by
  have hids := ids_any h hk
  have hlen := idsOf_len l
  have hperm := idsOf_perm l
  have hfew := hk.few
  unfold ofR
  obtain ⟨ss, hss⟩ : ∃ ss, idsOf l = ss := ⟨_, rfl⟩
  rw [hss] at hids hlen hperm ⊢
  obtain ⟨R, hR⟩ : ∃ R, R = ss.find? (fun id => decide (0 < file) && decide (fileR l id = file)) := ⟨_, rfl⟩
  rw [← hR]
  have HR := Lib.hid hR
  have HP := Lib.hid hperm
  have HL := Lib.hid hlen
  clear hss hperm hk hlen hR
  go_enter Try.func14, Try.ntmps14
  go_wp2_with fail
  refine hids.mono ?_
  rintro e w2 ⟨A, N, C, rfl, hsl, hown, hf⟩
  clear hids
  have h2 := (ObX.steady b most l).keep h hf
  obtain ⟨m, L, hT, rfl, hS⟩ := h2
  have hbl := hT.lt
  have c2 : w2.cell? ⟨b, 2, none⟩ = some (.map (some m)) := cell_of_ob hT.blk 2
  have hN : N = ss.length := by have := hsl.len; simp only [List.length_map, sliceLen] at this; omega
  have HN := Lib.hid hN
  have hN4 : N ≤ 4096 := by rw [hN, HL.out]; exact hfew
  clear hN
  go_wp2_with fail
  go_loop [10] (fun si => ∃ t : Nat, t ≤ N ∧ si = .int .i64 t ∧ Hid (R = (ss.drop t).find? (fun id => decide (0 < file) && decide (fileR (outL L) id = file)))) (fun si => N - (intOf si).toNat)
  case atStart => exact ⟨0, by omega, rfl, Lib.hid HR.out⟩
  case round =>
    obtain ⟨t, ht, rfl, HF⟩ := hrel
    by_cases hlt : t < N
    · have htl : t < ss.length := by have := HN.out; omega
      obtain ⟨k, hk⟩ : ∃ k, ss[t]? = some k := ⟨_, List.getElem?_eq_getElem htl⟩
      have hki : (ints ss)[t]? = some (.int .i64 k) := by rw [List.getElem?_map, hk]; rfl
      obtain ⟨g, off, n', cap', heq, hgl, hcs, -, -⟩ := hsl.form (by intro e; rw [e] at hki; cases hki)
      cases heq
      have c0 := hcs t _ hki
      have hkm : k ∈ L.map (·.1) := by rw [← keys_outL]; exact HP.out.subset (List.mem_of_getElem? hk)
      obtain ⟨⟨q, pm, f, n, pgs⟩, he⟩ := alGet_some_of L k hkm
      obtain ⟨hq, hpm⟩ := hT.one k _ he
      dsimp only at hq hpm
      have hql := ob_lt hq
      have d0 : w2.cell? ⟨q, 0, none⟩ = some (.int .i64 f) := cell_of_ob hq 0
      have hfile : fileR (outL L) k = f := by unfold fileR; rw [get_outL, he]; rfl
      have hdrop : ss.drop t = k :: ss.drop (t + 1) := by
        rw [List.drop_eq_getElem_cons htl]
        have : ss[t] = k := by have := List.getElem?_eq_getElem htl; rw [hk] at this; exact (Option.some.inj this).symm
        rw [this]
      have hfd := HF.out
      rw [hdrop, List.find?_cons, hfile] at hfd
      have HFD := Lib.hid hfd
      have hgp : (alGet (ptrL L) k).getD none = some q := by rw [get_ptrL, he]; rfl
      have HG := Lib.hid hgp
      clear hk hki hcs hkm he hfd hdrop hfile hgp HF
      by_cases h0 : 0 < file
      · by_cases hff : f = file
        · go_wp2_with (at_lookup; go_must (refine wpList_look1_w rfl _ _ _ rfl rfl k rfl key_ik Try.underlying66 none zeroPtr (hT.all.of rfl) (some q) HG.out ?_; simp only [ptrV, Option.map_some]))
          have hRk : R = some k := by have := HFD.out; simpa [h0, hff] using this
          go_ret
          rw [hRk]
          exact ⟨rfl, hf⟩
        · go_wp2_with (at_lookup; go_must (refine wpList_look1_w rfl _ _ _ rfl rfl k rfl key_ik Try.underlying66 none zeroPtr (hT.all.of rfl) (some q) HG.out ?_; simp only [ptrV, Option.map_some]))
          go_round
          case rel => exact ⟨t + 1, by omega, by go_num, Lib.hid (by have := HFD.out; simpa [h0, hff] using this)⟩
          case measure => simp [intOf]; omega
      · go_wp2
        go_round
        case rel => exact ⟨t + 1, by omega, by go_num, Lib.hid (by have := HFD.out; simpa [h0] using this)⟩
        case measure => simp [intOf]; omega
    · obtain rfl : t = N := by omega
      have hRn : R = none := by rw [HF.out, List.drop_eq_nil_of_le (by rw [HN.out]; omega)]; rfl
      go_wp2
      go_ret
      exact ⟨rfl, hf⟩
end
end Go.Proofs.Ytopfknikmhkaeaa
