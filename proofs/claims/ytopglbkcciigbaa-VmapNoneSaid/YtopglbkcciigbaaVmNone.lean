/- VmapNone returns true: the walk. No conditions. -/
import Derived.Test.YtopglbkcciigbaaVmN
namespace Go.Proofs.Ytopglbkcciigbaa
open Go.RowKit
set_option linter.unusedSimpArgs false
set_option linter.unusedVariables false
attribute [local go_sem] Oper.semAt_some
theorem index0V (a c : Option Addr) (w : World) : (Instr.index 53 (.agg #[.pointer a, .pointer c]) (.int .i64 0)).run Try.prog w = .ok (.pointer a) w := by kernel_rfl
theorem index1V (a c : Option Addr) (w : World) : (Instr.index 53 (.agg #[.pointer a, .pointer c]) (.int .i64 1)).run Try.prog w = .ok (.pointer c) w := by kernel_rfl
theorem NM.keepS {w w1 : World} {pa : Option Addr} {S : Nat → Prop} (h : NM w pa) (hf : Fr S w w1) (hn : ∀ a, pa = some a → ¬ S a.block) : NM w1 pa := by
  rcases h with h | ⟨b, u, h1, h2⟩
  · exact .inl h
  · exact .inr ⟨b, u, h1, hf.keep (hn _ h1) h2⟩
theorem idxM (a c : Option Addr) (j : Nat) (hj : j < 2) (w : World) : (Instr.index 53 (.agg #[.pointer a, .pointer c]) (.int .i64 (j : Int))).run Try.prog w = .ok (.pointer (if j = 0 then a else c)) w := by
  match j, hj with
  | 0, _ => simpa using index0V a c w
  | 1, _ => simpa using index1V a c w
set_option maxRecDepth 100000 in
set_option maxHeartbeats 8000000 in
theorem vnone_walk (W : World) (kd lo pg hw : Int) (x : Ent) (on : Bool) :
    Calls Try.prog 6 #[.agg #[.int .i64 kd, .int .i64 lo, .int .i64 pg, .int .i64 hw, .int .i64 x.s, .int .i64 x.e, .int .i64 x.f, .int .i64 x.o, .bool x.sh, .int .i64 x.pr, .int .i64 x.mx, .int .i64 x.inh, .int .i64 x.adv, .bool x.wi, .bool on]] W fun e w' => e = .returned (.bool true) ∧ Fr (fun _ => False) W w' := by
  obtain ⟨W0, hW0⟩ : ∃ W0, (W.alloc (.cells #[.int .i64 kd, .int .i64 lo, .int .i64 pg, .int .i64 hw, .int .i64 x.s, .int .i64 x.e, .int .i64 x.f, .int .i64 x.o, .bool x.sh, .int .i64 x.pr, .int .i64 x.mx, .int .i64 x.inh, .int .i64 x.adv, .bool x.wi, .bool on] 30)).alloc (.cells #[.slice none 0 0, .bool false] 52) = W0 := ⟨_, rfl⟩
  have hf0 : Fr (fun _ => False) W W0 := by rw [← hW0]; exact ((Fr.refl _ _).alloc _).alloc _
  have oa : ob W0 W.heap.size = some (.cells #[.int .i64 kd, .int .i64 lo, .int .i64 pg, .int .i64 hw, .int .i64 x.s, .int .i64 x.e, .int .i64 x.f, .int .i64 x.o, .bool x.sh, .int .i64 x.pr, .int .i64 x.mx, .int .i64 x.inh, .int .i64 x.adv, .bool x.wi, .bool on] 30 (0, 0)) := by rw [← hW0, ob_alloc _ _ _ (by simp), ob_new]
  have oz : ob W0 (W.heap.size + 1) = some (.cells #[.slice none 0 0, .bool false] 52 (0, 0)) := by rw [← hW0, ob_newAt _ _ _ (by simp)]
  obtain ⟨ba, hba⟩ : ∃ ba, W.heap.size = ba := ⟨_, rfl⟩
  rw [hba] at oa oz
  have HBA := Lib.hid hba
  go_enter Try.func6, Try.ntmps6
  go_wp2_with fail
  try rw [hW0]
  try rw [hba]
  clear hW0 hba
  go_loopw [14] (fun sj wr => ∃ (j : Nat) (k0 : Int), j ≤ 2 ∧ sj = .int .i64 j ∧ Hid (ob wr ba = some (.cells #[.int .i64 k0, .int .i64 lo, .int .i64 pg, .int .i64 hw, .int .i64 x.s, .int .i64 x.e, .int .i64 x.f, .int .i64 x.o, .bool x.sh, .int .i64 x.pr, .int .i64 x.mx, .int .i64 x.inh, .int .i64 x.adv, .bool x.wi, .bool on] 30 (0, 0)) ∧ ob wr (ba + 1) = some (.cells #[.slice none 0 0, .bool false] 52 (0, 0)) ∧ Fr (fun _ => False) W wr)) (fun sj _ => 2 - (intOf sj).toNat)
  case atStart => exact ⟨0, kd, by omega, rfl, Lib.hid ⟨oa, oz, hf0⟩⟩
  case round =>
    obtain ⟨j, k0, hj, rfl, HI⟩ := hrel
    clear oa oz hf0
    by_cases hlt : j < 2
    · obtain ⟨pa, hpa⟩ : ∃ pa, (if j = 0 then none else some (⟨ba + 1, 0, none⟩ : Addr)) = pa := ⟨_, rfl⟩
      have hix := fun w' => idxM none (some ⟨ba + 1, 0, none⟩) j hlt w'
      rw [hpa] at hix
      have hnm : NM wr pa := by
        rw [← hpa]
        split
        · exact .inl rfl
        · exact .inr ⟨_, _, rfl, HI.out.2.1⟩
      have HNM := Lib.hid hnm
      have HPA := Lib.hid (show ∀ a, pa = some a → a.block = ba + 1 from fun a ha => by
        rw [← hpa] at ha
        split at ha
        · cases ha
        · cases ha; rfl)
      clear hpa hnm
      have hdj : decide ((j : Int) < 2) = true := decide_eq_true (by omega)
      go_wp2_with fail
      clear hix
      go_loopw [6] (fun sk v => ∃ (K : Nat) (k1 : Int), K ≤ 6 ∧ sk = .int .i64 K ∧ Hid (ob v ba = some (.cells #[.int .i64 k1, .int .i64 lo, .int .i64 pg, .int .i64 hw, .int .i64 x.s, .int .i64 x.e, .int .i64 x.f, .int .i64 x.o, .bool x.sh, .int .i64 x.pr, .int .i64 x.mx, .int .i64 x.inh, .int .i64 x.adv, .bool x.wi, .bool on] 30 (0, 0)) ∧ Fr (fun k => k = ba) wr v)) (fun sk _ => 6 - (intOf sk).toNat)
      case atStart => exact ⟨0, k0, by omega, rfl, Lib.hid ⟨HI.out.1, Fr.refl _ _⟩⟩
      case round =>
        obtain ⟨K, k1, hK, rfl, HV⟩ := hrel
        have hs0 := ob_lt HV.out.1
        by_cases hlt2 : K < 6
        · have c0 : wr.cell? ⟨ba, 0, none⟩ = some (.int .i64 k1) := cell_of_ob HV.out.1 0
          have z0 := frozen_of_ob HV.out.1 0
          go_upto_region 9 with fail
          obtain ⟨W1, hW1⟩ : ∃ W1, wr.setCell ⟨ba, 0, none⟩ (.int .i64 K) = W1 := ⟨_, rfl⟩
          have ob1 : ob W1 ba = some (.cells #[.int .i64 (K : Int), .int .i64 lo, .int .i64 pg, .int .i64 hw, .int .i64 x.s, .int .i64 x.e, .int .i64 x.f, .int .i64 x.o, .bool x.sh, .int .i64 x.pr, .int .i64 x.mx, .int .i64 x.inh, .int .i64 x.adv, .bool x.wi, .bool on] 30 (0, 0)) := by rw [← hW1, ob_setCell_same HV.out.1]; rfl
          have hfs : Fr (fun k => k = ba) wr W1 := by rw [← hW1]; exact (Fr.refl _ _).setCell _ _ (.inl rfl)
          have hn1 : NM W1 pa := HNM.out.keepS (HV.out.2.step hfs (fun k hk => .inl hk)) (fun a ha => by have := HPA.out a ha; omega)
          have hact := actk_no hn1 K hlt2 lo pg hw x on
          have e1 := fun i => cell_of_ob ob1 i
          have s1 := ob_lt ob1
          have r0 : W1.cell? ⟨ba, 0, none⟩ = some (.int .i64 (K : Int)) := e1 0
          have r1 : W1.cell? ⟨ba, 1, none⟩ = some (.int .i64 lo) := e1 1
          have r2 : W1.cell? ⟨ba, 2, none⟩ = some (.int .i64 pg) := e1 2
          have r3 : W1.cell? ⟨ba, 3, none⟩ = some (.int .i64 hw) := e1 3
          have r4 : W1.cell? ⟨ba, 4, none⟩ = some (.int .i64 x.s) := e1 4
          have r5 : W1.cell? ⟨ba, 5, none⟩ = some (.int .i64 x.e) := e1 5
          have r6 : W1.cell? ⟨ba, 6, none⟩ = some (.int .i64 x.f) := e1 6
          have r7 : W1.cell? ⟨ba, 7, none⟩ = some (.int .i64 x.o) := e1 7
          have r8 : W1.cell? ⟨ba, 8, none⟩ = some (.bool x.sh) := e1 8
          have r9 : W1.cell? ⟨ba, 9, none⟩ = some (.int .i64 x.pr) := e1 9
          have r10 : W1.cell? ⟨ba, 10, none⟩ = some (.int .i64 x.mx) := e1 10
          have r11 : W1.cell? ⟨ba, 11, none⟩ = some (.int .i64 x.inh) := e1 11
          have r12 : W1.cell? ⟨ba, 12, none⟩ = some (.int .i64 x.adv) := e1 12
          have r13 : W1.cell? ⟨ba, 13, none⟩ = some (.bool x.wi) := e1 13
          have r14 : W1.cell? ⟨ba, 14, none⟩ = some (.bool on) := e1 14
          have HF1 := Lib.hid (HV.out.2.step hfs (fun k hk => .inl hk))
          have HOB1 := Lib.hid ob1
          rw [hW1]
          clear e1 ob1 hfs hn1 hW1 c0 z0
          go_wp2_with fail
          refine hact.mono ?_
          rintro e w5 ⟨rfl, hf5⟩
          have HV5 := Lib.hid (show ob w5 ba = some (.cells #[.int .i64 (K : Int), .int .i64 lo, .int .i64 pg, .int .i64 hw, .int .i64 x.s, .int .i64 x.e, .int .i64 x.f, .int .i64 x.o, .bool x.sh, .int .i64 x.pr, .int .i64 x.mx, .int .i64 x.inh, .int .i64 x.adv, .bool x.wi, .bool on] 30 (0, 0)) ∧ Fr (fun k => k = ba) _ w5 from ⟨hf5.keep (fun h => h) HOB1.out, HF1.out.step hf5 (fun _ h => h.elim)⟩)
          clear hact hf5 r0 r1 r2 r3 r4 r5 r6 r7 r8 r9 r10 r11 r12 r13 r14
          go_wp2
          go_roundw
          case rel => exact ⟨K + 1, (K : Int), by omega, by go_num, HV5⟩
          case measure => simp [intOf]; omega
        · have hn1 : NM wr pa := HNM.out.keepS HV.out.2 (fun a ha => by have := HPA.out a ha; omega)
          have hat := at_no hn1 lo
          have c1 : wr.cell? ⟨ba, 1, none⟩ = some (.int .i64 lo) := cell_of_ob HV.out.1 1
          have HN1 := Lib.hid hn1
          clear hn1
          go_wp2_with fail
          refine hat.mono ?_
          rintro e w6 ⟨rfl, hf6⟩
          clear hat c1
          simp only [zeroE]
          have hf7 : Fr (fun _ => False) wr (w6.alloc (.cells #[.int .i64 0, .int .i64 0, .int .i64 0, .int .i64 0, .bool false, .int .i64 0, .int .i64 0, .int .i64 0, .int .i64 0, .bool false] 28)) := hf6.alloc _
          have hen := ents_no (HN1.out.keep hf7)
          have HF7 := Lib.hid hf7
          clear hf6 hf7
          go_wp2_with fail
          refine hen.mono ?_
          rintro e w8 ⟨rfl, hf8⟩
          clear hen
          have hfk := fork_no (HN1.out.keep (HF7.out.also hf8))
          have HF8 := Lib.hid (HF7.out.also hf8)
          clear hf8
          go_wp2_with fail
          refine hfk.mono ?_
          rintro e w9 ⟨rfl, hf9⟩
          have HF9 := Lib.hid (HF8.out.also hf9)
          clear hfk hf9
          have HI9 := Lib.hid (show ob w9 ba = some (.cells #[.int .i64 k1, .int .i64 lo, .int .i64 pg, .int .i64 hw, .int .i64 x.s, .int .i64 x.e, .int .i64 x.f, .int .i64 x.o, .bool x.sh, .int .i64 x.pr, .int .i64 x.mx, .int .i64 x.inh, .int .i64 x.adv, .bool x.wi, .bool on] 30 (0, 0)) ∧ ob w9 (ba + 1) = some (.cells #[.slice none 0 0, .bool false] 52 (0, 0)) ∧ Fr (fun _ => False) W w9 from ⟨HF9.out.keep (fun h => h) HV.out.1, HF9.out.keep (fun h => h) (HV.out.2.keep (by omega) HI.out.2.1), (HI.out.2.2.step HV.out.2 (fun k hk => .inr (by have := HBA.out; omega))).also HF9.out⟩)
          go_wp2
          go_roundw
          case rel => exact ⟨j + 1, k1, by omega, by go_num, HI9⟩
          case measure => simp [intOf]; omega
    · obtain rfl : j = 2 := by omega
      go_wp2_with fail
      refine (vlives_any wr).mono ?_
      rintro e w9 ⟨rfl, hf9⟩
      have HF9 := Lib.hid (HI.out.2.2.also hf9)
      clear hf9
      go_wp2
      go_ret
      exact ⟨rfl, HF9.out⟩
end Go.Proofs.Ytopglbkcciigbaa
