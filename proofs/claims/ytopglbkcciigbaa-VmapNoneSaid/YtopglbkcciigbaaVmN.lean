/- vmap: a map that no call made: every method says so. No conditions. -/
import Derived.Test.YtopglbkcciigbaaVmG
namespace Go.Proofs.Ytopglbkcciigbaa
open Go.RowKit
set_option linter.unusedSimpArgs false
set_option linter.unusedVariables false
attribute [local go_sem] Oper.semAt_some
/-- A map that no call made. -/
def NM (w : World) (pa : Option Addr) : Prop := pa = none ∨ ∃ b u, pa = some ⟨b, 0, none⟩ ∧ ob w b = some (.cells #[u, .bool false] 52 (0, 0))
section
variable {w w1 : World} {pa : Option Addr}
theorem NM.keep (h : NM w pa) (hf : Fr (fun _ => False) w w1) : NM w1 pa := by
  rcases h with h | ⟨b, u, h1, h2⟩
  · exact .inl h
  · exact .inr ⟨b, u, h1, hf.keep (fun h => h) h2⟩
theorem made_no (h : NM w pa) : Calls Try.prog 26 #[.pointer pa] w fun e w' => e = .returned (.bool false) ∧ w' = w := by
  rcases h with rfl | ⟨b, u, rfl, h2⟩
  · exact made_nil w
  · exact made_zero h2
set_option maxRecDepth 100000 in
theorem ents_no (h : NM w pa)  : Calls Try.prog 12 #[.pointer pa] w fun e w' => e = .returned (.slice none 0 0) ∧ Fr (fun _ => False) w w' := by
  have hm := made_no h
  have HF := Lib.hid (show Fr (fun _ => False) w w from Fr.refl _ _)
  clear h
  go_enter Try.func12, Try.ntmps12
  go_wp2_with fail
  refine hm.mono ?_
  rintro e w1 ⟨rfl, hw⟩; rw [hw]; clear hw w1 hm
  go_wp2
  go_ret
  exact ⟨rfl, HF.out⟩
set_option maxRecDepth 100000 in
theorem fork_no (h : NM w pa)  : Calls Try.prog 20 #[.pointer pa] w fun e w' => e = .returned (.pointer none) ∧ Fr (fun _ => False) w w' := by
  have hm := made_no h
  have HF := Lib.hid (show Fr (fun _ => False) w w from Fr.refl _ _)
  clear h
  go_enter Try.func20, Try.ntmps20
  go_wp2_with fail
  refine hm.mono ?_
  rintro e w1 ⟨rfl, hw⟩; rw [hw]; clear hw w1 hm
  go_wp2
  go_ret
  exact ⟨rfl, HF.out⟩
set_option maxRecDepth 100000 in
theorem unmap_no (h : NM w pa) (lo n : Int) : Calls Try.prog 19 #[.pointer pa, .int .i64 lo, .int .i64 n] w fun e w' => e = .returned (.tuple #[.slice none 0 0, .int .i64 1]) ∧ Fr (fun _ => False) w w' := by
  have hm := made_no h
  have HF := Lib.hid (show Fr (fun _ => False) w w from Fr.refl _ _)
  clear h
  go_enter Try.func19, Try.ntmps19
  go_wp2_with fail
  refine hm.mono ?_
  rintro e w1 ⟨rfl, hw⟩; rw [hw]; clear hw w1 hm
  go_wp2
  go_ret2
  exact ⟨rfl, HF.out⟩
set_option maxRecDepth 100000 in
theorem map_no (h : NM w pa) (a : Int) (x : Ent) (fx : Bool) : Calls Try.prog 25 #[.pointer pa, .int .i64 a, .agg #[.int .i64 x.s, .int .i64 x.e, .int .i64 x.f, .int .i64 x.o, .bool x.sh, .int .i64 x.pr, .int .i64 x.mx, .int .i64 x.inh, .int .i64 x.adv, .bool x.wi], .bool fx] w fun e w' => e = .returned (.tuple #[.int .i64 0, .slice none 0 0, .int .i64 1]) ∧ Fr (fun _ => False) w w' := by
  have hm := made_no (h.keep ((Fr.refl _ w).alloc (.cells #[.int .i64 x.s, .int .i64 x.e, .int .i64 x.f, .int .i64 x.o, .bool x.sh, .int .i64 x.pr, .int .i64 x.mx, .int .i64 x.inh, .int .i64 x.adv, .bool x.wi] 28)))
  have HF := Lib.hid (show Fr (fun _ => False) w (w.alloc (.cells #[.int .i64 x.s, .int .i64 x.e, .int .i64 x.f, .int .i64 x.o, .bool x.sh, .int .i64 x.pr, .int .i64 x.mx, .int .i64 x.inh, .int .i64 x.adv, .bool x.wi] 28)) from (Fr.refl _ _).alloc _)
  clear h
  go_enter Try.func25, Try.ntmps25
  go_wp2_with fail
  refine hm.mono ?_
  rintro e w1 ⟨rfl, hw⟩; rw [hw]; clear hw w1 hm
  go_wp2
  go_ret3
  exact ⟨rfl, HF.out⟩
set_option maxRecDepth 100000 in
theorem at_no (h : NM w pa) (p : Int) : Calls Try.prog 23 #[.pointer pa, .int .i64 p] w fun e w' => e = .returned (.tuple #[.agg #[.int .i64 zeroE.s, .int .i64 zeroE.e, .int .i64 zeroE.f, .int .i64 zeroE.o, .bool zeroE.sh, .int .i64 zeroE.pr, .int .i64 zeroE.mx, .int .i64 zeroE.inh, .int .i64 zeroE.adv, .bool zeroE.wi], .bool false]) ∧ Fr (fun _ => False) w w' := by
  have hm := made_no (h.keep ((Fr.refl _ w).alloc (.cells #[.int .i64 zeroE.s, .int .i64 zeroE.e, .int .i64 zeroE.f, .int .i64 zeroE.o, .bool zeroE.sh, .int .i64 zeroE.pr, .int .i64 zeroE.mx, .int .i64 zeroE.inh, .int .i64 zeroE.adv, .bool zeroE.wi] 28)))
  simp only [zeroE] at hm
  clear h
  go_enter Try.func23, Try.ntmps23
  go_wp2_with fail
  refine hm.mono ?_
  rintro e w1 ⟨rfl, hw⟩; rw [hw]; clear hw w1 hm
  go_wp2
  refine bodyPost_ret (v := .tuple #[.agg #[.int .i64 zeroE.s, .int .i64 zeroE.e, .int .i64 zeroE.f, .int .i64 zeroE.o, .bool zeroE.sh, .int .i64 zeroE.pr, .int .i64 zeroE.mx, .int .i64 zeroE.inh, .int .i64 zeroE.adv, .bool zeroE.wi], .bool false]) (by simp [results, Try.results23, go_sem, zeroE]) rfl ⟨rfl, ?_⟩
  exact (Fr.refl _ _).alloc _
set_option maxRecDepth 100000 in
theorem allProtect_no (h : NM w pa) (lo n : Int) (ok : Bool) (bp : Nat) : Calls Try.prog 28 #[.pointer pa, .int .i64 lo, .int .i64 n, .bool ok, .func (.func 33) #[] #[.pointer (some ⟨bp, 0, none⟩)], .func (.func 34) #[] #[.pointer (some ⟨bp, 0, none⟩)]] w fun e w' => e = .returned (.int .i64 1) ∧ Fr (fun _ => False) w w' := by
  have hm := made_no (h.keep ((Fr.refl _ w).alloc (.cells #[.func (.func 33) #[] #[.pointer (some ⟨bp, 0, none⟩)]] 61)))
  have HF := Lib.hid (show Fr (fun _ => False) w (w.alloc (.cells #[.func (.func 33) #[] #[.pointer (some ⟨bp, 0, none⟩)]] 61)) from (Fr.refl _ _).alloc _)
  clear h
  go_enter Try.func28, Try.ntmps28
  go_wp2_with fail
  refine hm.mono ?_
  rintro e w1 ⟨rfl, hw⟩; rw [hw]; clear hw w1 hm
  go_wp2
  go_ret
  exact ⟨rfl, HF.out⟩
theorem Protect_noa (h : NM w pa) (lo n : Int) (p : Int) (h0 : 0 ≤ p) (h1 : p ≤ 7) : Calls Try.prog 17 #[.pointer pa, .int .i64 lo, .int .i64 n, .int .i64 p] w fun e w' => e = .returned (.int .i64 1) ∧ Fr (fun _ => False) w w' := by
  have hal := fun ok => allProtect_no (h.keep ((Fr.refl _ w).alloc (.cells #[.int .i64 p] 3))) lo n ok w.heap.size
  have HF := Lib.hid (show Fr (fun _ => False) w (w.alloc (.cells #[.int .i64 p] 3)) from (Fr.refl _ _).alloc _)
  clear h
  go_enter Try.func17, Try.ntmps17
  go_wp2_with fail
  refine (hal _).mono ?_
  rintro e w1 ⟨rfl, hf⟩
  have HF1 := Lib.hid (HF.out.also hf)
  clear hal hf
  go_wp2
  go_ret
  exact ⟨rfl, HF1.out⟩
theorem Protect_nob (h : NM w pa) (lo n : Int) (p : Int) (h0 : 0 ≤ p) (h1 : ¬ p ≤ 7) : Calls Try.prog 17 #[.pointer pa, .int .i64 lo, .int .i64 n, .int .i64 p] w fun e w' => e = .returned (.int .i64 1) ∧ Fr (fun _ => False) w w' := by
  have hal := fun ok => allProtect_no (h.keep ((Fr.refl _ w).alloc (.cells #[.int .i64 p] 3))) lo n ok w.heap.size
  have HF := Lib.hid (show Fr (fun _ => False) w (w.alloc (.cells #[.int .i64 p] 3)) from (Fr.refl _ _).alloc _)
  clear h
  go_enter Try.func17, Try.ntmps17
  go_wp2_with fail
  refine (hal _).mono ?_
  rintro e w1 ⟨rfl, hf⟩
  have HF1 := Lib.hid (HF.out.also hf)
  clear hal hf
  go_wp2
  go_ret
  exact ⟨rfl, HF1.out⟩
theorem Protect_noc (h : NM w pa) (lo n : Int) (p : Int) (h0 : ¬ 0 ≤ p) : Calls Try.prog 17 #[.pointer pa, .int .i64 lo, .int .i64 n, .int .i64 p] w fun e w' => e = .returned (.int .i64 1) ∧ Fr (fun _ => False) w w' := by
  have hal := fun ok => allProtect_no (h.keep ((Fr.refl _ w).alloc (.cells #[.int .i64 p] 3))) lo n ok w.heap.size
  have HF := Lib.hid (show Fr (fun _ => False) w (w.alloc (.cells #[.int .i64 p] 3)) from (Fr.refl _ _).alloc _)
  clear h
  go_enter Try.func17, Try.ntmps17
  go_wp2_with fail
  refine (hal _).mono ?_
  rintro e w1 ⟨rfl, hf⟩
  have HF1 := Lib.hid (HF.out.also hf)
  clear hal hf
  go_wp2
  go_ret
  exact ⟨rfl, HF1.out⟩
theorem Protect_no (h : NM w pa) (lo n : Int) (p : Int) : Calls Try.prog 17 #[.pointer pa, .int .i64 lo, .int .i64 n, .int .i64 p] w fun e w' => e = .returned (.int .i64 1) ∧ Fr (fun _ => False) w w' := by
  by_cases h0 : 0 ≤ p
  · by_cases h1 : p ≤ 7
    · exact Protect_noa h lo n p h0 h1
    · exact Protect_nob h lo n p h0 h1
  · exact Protect_noc h lo n p h0
set_option maxRecDepth 100000 in
theorem allInherit_no (h : NM w pa) (lo n : Int) (ok : Bool) (bp : Nat) : Calls Try.prog 28 #[.pointer pa, .int .i64 lo, .int .i64 n, .bool ok, .func (.func 29) #[.pointer pa] #[], .func (.func 30) #[] #[.pointer (some ⟨bp, 0, none⟩)]] w fun e w' => e = .returned (.int .i64 1) ∧ Fr (fun _ => False) w w' := by
  have hm := made_no (h.keep ((Fr.refl _ w).alloc (.cells #[.func (.func 29) #[.pointer pa] #[]] 61)))
  have HF := Lib.hid (show Fr (fun _ => False) w (w.alloc (.cells #[.func (.func 29) #[.pointer pa] #[]] 61)) from (Fr.refl _ _).alloc _)
  clear h
  go_enter Try.func28, Try.ntmps28
  go_wp2_with fail
  refine hm.mono ?_
  rintro e w1 ⟨rfl, hw⟩; rw [hw]; clear hw w1 hm
  go_wp2
  go_ret
  exact ⟨rfl, HF.out⟩
theorem Inherit_noa (h : NM w pa) (lo n : Int) (p : Int) (h0 : 0 ≤ p) (h1 : p ≤ 2) : Calls Try.prog 14 #[.pointer pa, .int .i64 lo, .int .i64 n, .int .i64 p] w fun e w' => e = .returned (.int .i64 1) ∧ Fr (fun _ => False) w w' := by
  have hal := fun ok => allInherit_no (h.keep ((Fr.refl _ w).alloc (.cells #[.int .i64 p] 3))) lo n ok w.heap.size
  have HF := Lib.hid (show Fr (fun _ => False) w (w.alloc (.cells #[.int .i64 p] 3)) from (Fr.refl _ _).alloc _)
  clear h
  go_enter Try.func14, Try.ntmps14
  go_wp2_with fail
  refine (hal _).mono ?_
  rintro e w1 ⟨rfl, hf⟩
  have HF1 := Lib.hid (HF.out.also hf)
  clear hal hf
  go_wp2
  go_ret
  exact ⟨rfl, HF1.out⟩
theorem Inherit_nob (h : NM w pa) (lo n : Int) (p : Int) (h0 : 0 ≤ p) (h1 : ¬ p ≤ 2) : Calls Try.prog 14 #[.pointer pa, .int .i64 lo, .int .i64 n, .int .i64 p] w fun e w' => e = .returned (.int .i64 1) ∧ Fr (fun _ => False) w w' := by
  have hal := fun ok => allInherit_no (h.keep ((Fr.refl _ w).alloc (.cells #[.int .i64 p] 3))) lo n ok w.heap.size
  have HF := Lib.hid (show Fr (fun _ => False) w (w.alloc (.cells #[.int .i64 p] 3)) from (Fr.refl _ _).alloc _)
  clear h
  go_enter Try.func14, Try.ntmps14
  go_wp2_with fail
  refine (hal _).mono ?_
  rintro e w1 ⟨rfl, hf⟩
  have HF1 := Lib.hid (HF.out.also hf)
  clear hal hf
  go_wp2
  go_ret
  exact ⟨rfl, HF1.out⟩
theorem Inherit_noc (h : NM w pa) (lo n : Int) (p : Int) (h0 : ¬ 0 ≤ p) : Calls Try.prog 14 #[.pointer pa, .int .i64 lo, .int .i64 n, .int .i64 p] w fun e w' => e = .returned (.int .i64 1) ∧ Fr (fun _ => False) w w' := by
  have hal := fun ok => allInherit_no (h.keep ((Fr.refl _ w).alloc (.cells #[.int .i64 p] 3))) lo n ok w.heap.size
  have HF := Lib.hid (show Fr (fun _ => False) w (w.alloc (.cells #[.int .i64 p] 3)) from (Fr.refl _ _).alloc _)
  clear h
  go_enter Try.func14, Try.ntmps14
  go_wp2_with fail
  refine (hal _).mono ?_
  rintro e w1 ⟨rfl, hf⟩
  have HF1 := Lib.hid (HF.out.also hf)
  clear hal hf
  go_wp2
  go_ret
  exact ⟨rfl, HF1.out⟩
theorem Inherit_no (h : NM w pa) (lo n : Int) (p : Int) : Calls Try.prog 14 #[.pointer pa, .int .i64 lo, .int .i64 n, .int .i64 p] w fun e w' => e = .returned (.int .i64 1) ∧ Fr (fun _ => False) w w' := by
  by_cases h0 : 0 ≤ p
  · by_cases h1 : p ≤ 2
    · exact Inherit_noa h lo n p h0 h1
    · exact Inherit_nob h lo n p h0 h1
  · exact Inherit_noc h lo n p h0
set_option maxRecDepth 100000 in
theorem allAdvise_no (h : NM w pa) (lo n : Int) (ok : Bool) (bp : Nat) : Calls Try.prog 28 #[.pointer pa, .int .i64 lo, .int .i64 n, .bool ok, .func (.func 29) #[.pointer pa] #[], .func (.func 31) #[] #[.pointer (some ⟨bp, 0, none⟩)]] w fun e w' => e = .returned (.int .i64 1) ∧ Fr (fun _ => False) w w' := by
  have hm := made_no (h.keep ((Fr.refl _ w).alloc (.cells #[.func (.func 29) #[.pointer pa] #[]] 61)))
  have HF := Lib.hid (show Fr (fun _ => False) w (w.alloc (.cells #[.func (.func 29) #[.pointer pa] #[]] 61)) from (Fr.refl _ _).alloc _)
  clear h
  go_enter Try.func28, Try.ntmps28
  go_wp2_with fail
  refine hm.mono ?_
  rintro e w1 ⟨rfl, hw⟩; rw [hw]; clear hw w1 hm
  go_wp2
  go_ret
  exact ⟨rfl, HF.out⟩
theorem Advise_noa (h : NM w pa) (lo n : Int) (p : Int) (h0 : 0 ≤ p) (h1 : p ≤ 4) : Calls Try.prog 15 #[.pointer pa, .int .i64 lo, .int .i64 n, .int .i64 p] w fun e w' => e = .returned (.int .i64 1) ∧ Fr (fun _ => False) w w' := by
  have hal := fun ok => allAdvise_no (h.keep ((Fr.refl _ w).alloc (.cells #[.int .i64 p] 3))) lo n ok w.heap.size
  have HF := Lib.hid (show Fr (fun _ => False) w (w.alloc (.cells #[.int .i64 p] 3)) from (Fr.refl _ _).alloc _)
  clear h
  go_enter Try.func15, Try.ntmps15
  go_wp2_with fail
  refine (hal _).mono ?_
  rintro e w1 ⟨rfl, hf⟩
  have HF1 := Lib.hid (HF.out.also hf)
  clear hal hf
  go_wp2
  go_ret
  exact ⟨rfl, HF1.out⟩
theorem Advise_nob (h : NM w pa) (lo n : Int) (p : Int) (h0 : 0 ≤ p) (h1 : ¬ p ≤ 4) : Calls Try.prog 15 #[.pointer pa, .int .i64 lo, .int .i64 n, .int .i64 p] w fun e w' => e = .returned (.int .i64 1) ∧ Fr (fun _ => False) w w' := by
  have hal := fun ok => allAdvise_no (h.keep ((Fr.refl _ w).alloc (.cells #[.int .i64 p] 3))) lo n ok w.heap.size
  have HF := Lib.hid (show Fr (fun _ => False) w (w.alloc (.cells #[.int .i64 p] 3)) from (Fr.refl _ _).alloc _)
  clear h
  go_enter Try.func15, Try.ntmps15
  go_wp2_with fail
  refine (hal _).mono ?_
  rintro e w1 ⟨rfl, hf⟩
  have HF1 := Lib.hid (HF.out.also hf)
  clear hal hf
  go_wp2
  go_ret
  exact ⟨rfl, HF1.out⟩
theorem Advise_noc (h : NM w pa) (lo n : Int) (p : Int) (h0 : ¬ 0 ≤ p) : Calls Try.prog 15 #[.pointer pa, .int .i64 lo, .int .i64 n, .int .i64 p] w fun e w' => e = .returned (.int .i64 1) ∧ Fr (fun _ => False) w w' := by
  have hal := fun ok => allAdvise_no (h.keep ((Fr.refl _ w).alloc (.cells #[.int .i64 p] 3))) lo n ok w.heap.size
  have HF := Lib.hid (show Fr (fun _ => False) w (w.alloc (.cells #[.int .i64 p] 3)) from (Fr.refl _ _).alloc _)
  clear h
  go_enter Try.func15, Try.ntmps15
  go_wp2_with fail
  refine (hal _).mono ?_
  rintro e w1 ⟨rfl, hf⟩
  have HF1 := Lib.hid (HF.out.also hf)
  clear hal hf
  go_wp2
  go_ret
  exact ⟨rfl, HF1.out⟩
theorem Advise_no (h : NM w pa) (lo n : Int) (p : Int) : Calls Try.prog 15 #[.pointer pa, .int .i64 lo, .int .i64 n, .int .i64 p] w fun e w' => e = .returned (.int .i64 1) ∧ Fr (fun _ => False) w w' := by
  by_cases h0 : 0 ≤ p
  · by_cases h1 : p ≤ 4
    · exact Advise_noa h lo n p h0 h1
    · exact Advise_nob h lo n p h0 h1
  · exact Advise_noc h lo n p h0
set_option maxRecDepth 100000 in
theorem allWire_no (h : NM w pa) (lo n : Int) (ok : Bool) (bp : Nat) : Calls Try.prog 28 #[.pointer pa, .int .i64 lo, .int .i64 n, .bool ok, .func (.func 29) #[.pointer pa] #[], .func (.func 32) #[] #[.pointer (some ⟨bp, 0, none⟩)]] w fun e w' => e = .returned (.int .i64 1) ∧ Fr (fun _ => False) w w' := by
  have hm := made_no (h.keep ((Fr.refl _ w).alloc (.cells #[.func (.func 29) #[.pointer pa] #[]] 61)))
  have HF := Lib.hid (show Fr (fun _ => False) w (w.alloc (.cells #[.func (.func 29) #[.pointer pa] #[]] 61)) from (Fr.refl _ _).alloc _)
  clear h
  go_enter Try.func28, Try.ntmps28
  go_wp2_with fail
  refine hm.mono ?_
  rintro e w1 ⟨rfl, hw⟩; rw [hw]; clear hw w1 hm
  go_wp2
  go_ret
  exact ⟨rfl, HF.out⟩
theorem Wire_no (h : NM w pa) (lo n : Int) (p : Bool)  : Calls Try.prog 16 #[.pointer pa, .int .i64 lo, .int .i64 n, .bool p] w fun e w' => e = .returned (.int .i64 1) ∧ Fr (fun _ => False) w w' := by
  have hal := fun ok => allWire_no (h.keep ((Fr.refl _ w).alloc (.cells #[.bool p] 4))) lo n ok w.heap.size
  have HF := Lib.hid (show Fr (fun _ => False) w (w.alloc (.cells #[.bool p] 4)) from (Fr.refl _ _).alloc _)
  clear h
  go_enter Try.func16, Try.ntmps16
  go_wp2_with fail
  refine (hal _).mono ?_
  rintro e w1 ⟨rfl, hf⟩
  have HF1 := Lib.hid (HF.out.also hf)
  clear hal hf
  go_wp2
  go_ret
  exact ⟨rfl, HF1.out⟩
set_option maxRecDepth 100000 in
set_option maxHeartbeats 2000000 in
theorem act0_no (h : NM w pa) (lo pg hw : Int) (x : Ent) (on : Bool) :
    Calls Try.prog 11 #[.pointer pa, .agg #[.int .i64 0, .int .i64 lo, .int .i64 pg, .int .i64 hw, .int .i64 x.s, .int .i64 x.e, .int .i64 x.f, .int .i64 x.o, .bool x.sh, .int .i64 x.pr, .int .i64 x.mx, .int .i64 x.inh, .int .i64 x.adv, .bool x.wi, .bool on]] w fun e w' => e = .returned (.tuple #[.pointer pa, .int .i64 0, .slice none 0 0, .int .i64 1]) ∧ Fr (fun _ => False) w w' := by
  obtain ⟨W1, hW1⟩ : ∃ W1, w.alloc (.cells #[.int .i64 0, .int .i64 lo, .int .i64 pg, .int .i64 hw, .int .i64 x.s, .int .i64 x.e, .int .i64 x.f, .int .i64 x.o, .bool x.sh, .int .i64 x.pr, .int .i64 x.mx, .int .i64 x.inh, .int .i64 x.adv, .bool x.wi, .bool on] 30) = W1 := ⟨_, rfl⟩
  have hf1 : Fr (fun _ => False) w W1 := by rw [← hW1]; exact (Fr.refl _ _).alloc _
  have h1 := h.keep hf1
  have hc := map_no h1 lo x on
  have ob1 : ob W1 w.heap.size = some (.cells #[.int .i64 0, .int .i64 lo, .int .i64 pg, .int .i64 hw, .int .i64 x.s, .int .i64 x.e, .int .i64 x.f, .int .i64 x.o, .bool x.sh, .int .i64 x.pr, .int .i64 x.mx, .int .i64 x.inh, .int .i64 x.adv, .bool x.wi, .bool on] 30 (0, 0)) := by rw [← hW1]; exact ob_new _ _
  have e1 := fun i => cell_of_ob ob1 i
  have r0 : W1.cell? ⟨w.heap.size, 0, none⟩ = some (.int .i64 0) := e1 0
  have r1 : W1.cell? ⟨w.heap.size, 1, none⟩ = some (.int .i64 lo) := e1 1
  have r2 : W1.cell? ⟨w.heap.size, 2, none⟩ = some (.int .i64 pg) := e1 2
  have r3 : W1.cell? ⟨w.heap.size, 3, none⟩ = some (.int .i64 hw) := e1 3
  have r4 : W1.cell? ⟨w.heap.size, 4, none⟩ = some (.int .i64 x.s) := e1 4
  have r5 : W1.cell? ⟨w.heap.size, 5, none⟩ = some (.int .i64 x.e) := e1 5
  have r6 : W1.cell? ⟨w.heap.size, 6, none⟩ = some (.int .i64 x.f) := e1 6
  have r7 : W1.cell? ⟨w.heap.size, 7, none⟩ = some (.int .i64 x.o) := e1 7
  have r8 : W1.cell? ⟨w.heap.size, 8, none⟩ = some (.bool x.sh) := e1 8
  have r9 : W1.cell? ⟨w.heap.size, 9, none⟩ = some (.int .i64 x.pr) := e1 9
  have r10 : W1.cell? ⟨w.heap.size, 10, none⟩ = some (.int .i64 x.mx) := e1 10
  have r11 : W1.cell? ⟨w.heap.size, 11, none⟩ = some (.int .i64 x.inh) := e1 11
  have r12 : W1.cell? ⟨w.heap.size, 12, none⟩ = some (.int .i64 x.adv) := e1 12
  have r13 : W1.cell? ⟨w.heap.size, 13, none⟩ = some (.bool x.wi) := e1 13
  have r14 : W1.cell? ⟨w.heap.size, 14, none⟩ = some (.bool on) := e1 14
  have HF := Lib.hid hf1
  clear e1 ob1 hf1 h1 h
  go_enter Try.func11, Try.ntmps11
  go_wp2_with fail
  try rw [hW1]
  refine hc.mono ?_
  rintro e w2 ⟨rfl, hf⟩
  have HF1 := Lib.hid (HF.out.also hf)
  clear hc hf hW1 r0 r1 r2 r3 r4 r5 r6 r7 r8 r9 r10 r11 r12 r13 r14
  go_wp2
  refine bodyPost_ret (results_tmp4 rfl _ _ _) rfl ?_
  exact ⟨rfl, HF1.out⟩
set_option maxRecDepth 100000 in
set_option maxHeartbeats 2000000 in
theorem act1_no (h : NM w pa) (lo pg hw : Int) (x : Ent) (on : Bool) :
    Calls Try.prog 11 #[.pointer pa, .agg #[.int .i64 1, .int .i64 lo, .int .i64 pg, .int .i64 hw, .int .i64 x.s, .int .i64 x.e, .int .i64 x.f, .int .i64 x.o, .bool x.sh, .int .i64 x.pr, .int .i64 x.mx, .int .i64 x.inh, .int .i64 x.adv, .bool x.wi, .bool on]] w fun e w' => e = .returned (.tuple #[.pointer pa, .int .i64 0, .slice none 0 0, .int .i64 1]) ∧ Fr (fun _ => False) w w' := by
  obtain ⟨W1, hW1⟩ : ∃ W1, w.alloc (.cells #[.int .i64 1, .int .i64 lo, .int .i64 pg, .int .i64 hw, .int .i64 x.s, .int .i64 x.e, .int .i64 x.f, .int .i64 x.o, .bool x.sh, .int .i64 x.pr, .int .i64 x.mx, .int .i64 x.inh, .int .i64 x.adv, .bool x.wi, .bool on] 30) = W1 := ⟨_, rfl⟩
  have hf1 : Fr (fun _ => False) w W1 := by rw [← hW1]; exact (Fr.refl _ _).alloc _
  have h1 := h.keep hf1
  have hc := unmap_no h1 lo pg
  have ob1 : ob W1 w.heap.size = some (.cells #[.int .i64 1, .int .i64 lo, .int .i64 pg, .int .i64 hw, .int .i64 x.s, .int .i64 x.e, .int .i64 x.f, .int .i64 x.o, .bool x.sh, .int .i64 x.pr, .int .i64 x.mx, .int .i64 x.inh, .int .i64 x.adv, .bool x.wi, .bool on] 30 (0, 0)) := by rw [← hW1]; exact ob_new _ _
  have e1 := fun i => cell_of_ob ob1 i
  have r0 : W1.cell? ⟨w.heap.size, 0, none⟩ = some (.int .i64 1) := e1 0
  have r1 : W1.cell? ⟨w.heap.size, 1, none⟩ = some (.int .i64 lo) := e1 1
  have r2 : W1.cell? ⟨w.heap.size, 2, none⟩ = some (.int .i64 pg) := e1 2
  have r3 : W1.cell? ⟨w.heap.size, 3, none⟩ = some (.int .i64 hw) := e1 3
  have r4 : W1.cell? ⟨w.heap.size, 4, none⟩ = some (.int .i64 x.s) := e1 4
  have r5 : W1.cell? ⟨w.heap.size, 5, none⟩ = some (.int .i64 x.e) := e1 5
  have r6 : W1.cell? ⟨w.heap.size, 6, none⟩ = some (.int .i64 x.f) := e1 6
  have r7 : W1.cell? ⟨w.heap.size, 7, none⟩ = some (.int .i64 x.o) := e1 7
  have r8 : W1.cell? ⟨w.heap.size, 8, none⟩ = some (.bool x.sh) := e1 8
  have r9 : W1.cell? ⟨w.heap.size, 9, none⟩ = some (.int .i64 x.pr) := e1 9
  have r10 : W1.cell? ⟨w.heap.size, 10, none⟩ = some (.int .i64 x.mx) := e1 10
  have r11 : W1.cell? ⟨w.heap.size, 11, none⟩ = some (.int .i64 x.inh) := e1 11
  have r12 : W1.cell? ⟨w.heap.size, 12, none⟩ = some (.int .i64 x.adv) := e1 12
  have r13 : W1.cell? ⟨w.heap.size, 13, none⟩ = some (.bool x.wi) := e1 13
  have r14 : W1.cell? ⟨w.heap.size, 14, none⟩ = some (.bool on) := e1 14
  have HF := Lib.hid hf1
  clear e1 ob1 hf1 h1 h
  go_enter Try.func11, Try.ntmps11
  go_wp2_with fail
  try rw [hW1]
  refine hc.mono ?_
  rintro e w2 ⟨rfl, hf⟩
  have HF1 := Lib.hid (HF.out.also hf)
  clear hc hf hW1 r0 r1 r2 r3 r4 r5 r6 r7 r8 r9 r10 r11 r12 r13 r14
  go_wp2
  refine bodyPost_ret (results_tmp4 rfl _ _ _) rfl ?_
  exact ⟨rfl, HF1.out⟩
set_option maxRecDepth 100000 in
set_option maxHeartbeats 2000000 in
theorem act2_no (h : NM w pa) (lo pg hw : Int) (x : Ent) (on : Bool) :
    Calls Try.prog 11 #[.pointer pa, .agg #[.int .i64 2, .int .i64 lo, .int .i64 pg, .int .i64 hw, .int .i64 x.s, .int .i64 x.e, .int .i64 x.f, .int .i64 x.o, .bool x.sh, .int .i64 x.pr, .int .i64 x.mx, .int .i64 x.inh, .int .i64 x.adv, .bool x.wi, .bool on]] w fun e w' => e = .returned (.tuple #[.pointer pa, .int .i64 0, .slice none 0 0, .int .i64 1]) ∧ Fr (fun _ => False) w w' := by
  obtain ⟨W1, hW1⟩ : ∃ W1, w.alloc (.cells #[.int .i64 2, .int .i64 lo, .int .i64 pg, .int .i64 hw, .int .i64 x.s, .int .i64 x.e, .int .i64 x.f, .int .i64 x.o, .bool x.sh, .int .i64 x.pr, .int .i64 x.mx, .int .i64 x.inh, .int .i64 x.adv, .bool x.wi, .bool on] 30) = W1 := ⟨_, rfl⟩
  have hf1 : Fr (fun _ => False) w W1 := by rw [← hW1]; exact (Fr.refl _ _).alloc _
  have h1 := h.keep hf1
  have hc := Protect_no h1 lo pg hw
  have ob1 : ob W1 w.heap.size = some (.cells #[.int .i64 2, .int .i64 lo, .int .i64 pg, .int .i64 hw, .int .i64 x.s, .int .i64 x.e, .int .i64 x.f, .int .i64 x.o, .bool x.sh, .int .i64 x.pr, .int .i64 x.mx, .int .i64 x.inh, .int .i64 x.adv, .bool x.wi, .bool on] 30 (0, 0)) := by rw [← hW1]; exact ob_new _ _
  have e1 := fun i => cell_of_ob ob1 i
  have r0 : W1.cell? ⟨w.heap.size, 0, none⟩ = some (.int .i64 2) := e1 0
  have r1 : W1.cell? ⟨w.heap.size, 1, none⟩ = some (.int .i64 lo) := e1 1
  have r2 : W1.cell? ⟨w.heap.size, 2, none⟩ = some (.int .i64 pg) := e1 2
  have r3 : W1.cell? ⟨w.heap.size, 3, none⟩ = some (.int .i64 hw) := e1 3
  have r4 : W1.cell? ⟨w.heap.size, 4, none⟩ = some (.int .i64 x.s) := e1 4
  have r5 : W1.cell? ⟨w.heap.size, 5, none⟩ = some (.int .i64 x.e) := e1 5
  have r6 : W1.cell? ⟨w.heap.size, 6, none⟩ = some (.int .i64 x.f) := e1 6
  have r7 : W1.cell? ⟨w.heap.size, 7, none⟩ = some (.int .i64 x.o) := e1 7
  have r8 : W1.cell? ⟨w.heap.size, 8, none⟩ = some (.bool x.sh) := e1 8
  have r9 : W1.cell? ⟨w.heap.size, 9, none⟩ = some (.int .i64 x.pr) := e1 9
  have r10 : W1.cell? ⟨w.heap.size, 10, none⟩ = some (.int .i64 x.mx) := e1 10
  have r11 : W1.cell? ⟨w.heap.size, 11, none⟩ = some (.int .i64 x.inh) := e1 11
  have r12 : W1.cell? ⟨w.heap.size, 12, none⟩ = some (.int .i64 x.adv) := e1 12
  have r13 : W1.cell? ⟨w.heap.size, 13, none⟩ = some (.bool x.wi) := e1 13
  have r14 : W1.cell? ⟨w.heap.size, 14, none⟩ = some (.bool on) := e1 14
  have HF := Lib.hid hf1
  clear e1 ob1 hf1 h1 h
  go_enter Try.func11, Try.ntmps11
  go_wp2_with fail
  try rw [hW1]
  refine hc.mono ?_
  rintro e w2 ⟨rfl, hf⟩
  have HF1 := Lib.hid (HF.out.also hf)
  clear hc hf hW1 r0 r1 r2 r3 r4 r5 r6 r7 r8 r9 r10 r11 r12 r13 r14
  go_wp2
  refine bodyPost_ret (results_tmp4 rfl _ _ _) rfl ?_
  exact ⟨rfl, HF1.out⟩
set_option maxRecDepth 100000 in
set_option maxHeartbeats 2000000 in
theorem act3_no (h : NM w pa) (lo pg hw : Int) (x : Ent) (on : Bool) :
    Calls Try.prog 11 #[.pointer pa, .agg #[.int .i64 3, .int .i64 lo, .int .i64 pg, .int .i64 hw, .int .i64 x.s, .int .i64 x.e, .int .i64 x.f, .int .i64 x.o, .bool x.sh, .int .i64 x.pr, .int .i64 x.mx, .int .i64 x.inh, .int .i64 x.adv, .bool x.wi, .bool on]] w fun e w' => e = .returned (.tuple #[.pointer pa, .int .i64 0, .slice none 0 0, .int .i64 1]) ∧ Fr (fun _ => False) w w' := by
  obtain ⟨W1, hW1⟩ : ∃ W1, w.alloc (.cells #[.int .i64 3, .int .i64 lo, .int .i64 pg, .int .i64 hw, .int .i64 x.s, .int .i64 x.e, .int .i64 x.f, .int .i64 x.o, .bool x.sh, .int .i64 x.pr, .int .i64 x.mx, .int .i64 x.inh, .int .i64 x.adv, .bool x.wi, .bool on] 30) = W1 := ⟨_, rfl⟩
  have hf1 : Fr (fun _ => False) w W1 := by rw [← hW1]; exact (Fr.refl _ _).alloc _
  have h1 := h.keep hf1
  have hc := Inherit_no h1 lo pg hw
  have ob1 : ob W1 w.heap.size = some (.cells #[.int .i64 3, .int .i64 lo, .int .i64 pg, .int .i64 hw, .int .i64 x.s, .int .i64 x.e, .int .i64 x.f, .int .i64 x.o, .bool x.sh, .int .i64 x.pr, .int .i64 x.mx, .int .i64 x.inh, .int .i64 x.adv, .bool x.wi, .bool on] 30 (0, 0)) := by rw [← hW1]; exact ob_new _ _
  have e1 := fun i => cell_of_ob ob1 i
  have r0 : W1.cell? ⟨w.heap.size, 0, none⟩ = some (.int .i64 3) := e1 0
  have r1 : W1.cell? ⟨w.heap.size, 1, none⟩ = some (.int .i64 lo) := e1 1
  have r2 : W1.cell? ⟨w.heap.size, 2, none⟩ = some (.int .i64 pg) := e1 2
  have r3 : W1.cell? ⟨w.heap.size, 3, none⟩ = some (.int .i64 hw) := e1 3
  have r4 : W1.cell? ⟨w.heap.size, 4, none⟩ = some (.int .i64 x.s) := e1 4
  have r5 : W1.cell? ⟨w.heap.size, 5, none⟩ = some (.int .i64 x.e) := e1 5
  have r6 : W1.cell? ⟨w.heap.size, 6, none⟩ = some (.int .i64 x.f) := e1 6
  have r7 : W1.cell? ⟨w.heap.size, 7, none⟩ = some (.int .i64 x.o) := e1 7
  have r8 : W1.cell? ⟨w.heap.size, 8, none⟩ = some (.bool x.sh) := e1 8
  have r9 : W1.cell? ⟨w.heap.size, 9, none⟩ = some (.int .i64 x.pr) := e1 9
  have r10 : W1.cell? ⟨w.heap.size, 10, none⟩ = some (.int .i64 x.mx) := e1 10
  have r11 : W1.cell? ⟨w.heap.size, 11, none⟩ = some (.int .i64 x.inh) := e1 11
  have r12 : W1.cell? ⟨w.heap.size, 12, none⟩ = some (.int .i64 x.adv) := e1 12
  have r13 : W1.cell? ⟨w.heap.size, 13, none⟩ = some (.bool x.wi) := e1 13
  have r14 : W1.cell? ⟨w.heap.size, 14, none⟩ = some (.bool on) := e1 14
  have HF := Lib.hid hf1
  clear e1 ob1 hf1 h1 h
  go_enter Try.func11, Try.ntmps11
  go_wp2_with fail
  try rw [hW1]
  refine hc.mono ?_
  rintro e w2 ⟨rfl, hf⟩
  have HF1 := Lib.hid (HF.out.also hf)
  clear hc hf hW1 r0 r1 r2 r3 r4 r5 r6 r7 r8 r9 r10 r11 r12 r13 r14
  go_wp2
  refine bodyPost_ret (results_tmp4 rfl _ _ _) rfl ?_
  exact ⟨rfl, HF1.out⟩
set_option maxRecDepth 100000 in
set_option maxHeartbeats 2000000 in
theorem act4_no (h : NM w pa) (lo pg hw : Int) (x : Ent) (on : Bool) :
    Calls Try.prog 11 #[.pointer pa, .agg #[.int .i64 4, .int .i64 lo, .int .i64 pg, .int .i64 hw, .int .i64 x.s, .int .i64 x.e, .int .i64 x.f, .int .i64 x.o, .bool x.sh, .int .i64 x.pr, .int .i64 x.mx, .int .i64 x.inh, .int .i64 x.adv, .bool x.wi, .bool on]] w fun e w' => e = .returned (.tuple #[.pointer pa, .int .i64 0, .slice none 0 0, .int .i64 1]) ∧ Fr (fun _ => False) w w' := by
  obtain ⟨W1, hW1⟩ : ∃ W1, w.alloc (.cells #[.int .i64 4, .int .i64 lo, .int .i64 pg, .int .i64 hw, .int .i64 x.s, .int .i64 x.e, .int .i64 x.f, .int .i64 x.o, .bool x.sh, .int .i64 x.pr, .int .i64 x.mx, .int .i64 x.inh, .int .i64 x.adv, .bool x.wi, .bool on] 30) = W1 := ⟨_, rfl⟩
  have hf1 : Fr (fun _ => False) w W1 := by rw [← hW1]; exact (Fr.refl _ _).alloc _
  have h1 := h.keep hf1
  have hc := Advise_no h1 lo pg hw
  have ob1 : ob W1 w.heap.size = some (.cells #[.int .i64 4, .int .i64 lo, .int .i64 pg, .int .i64 hw, .int .i64 x.s, .int .i64 x.e, .int .i64 x.f, .int .i64 x.o, .bool x.sh, .int .i64 x.pr, .int .i64 x.mx, .int .i64 x.inh, .int .i64 x.adv, .bool x.wi, .bool on] 30 (0, 0)) := by rw [← hW1]; exact ob_new _ _
  have e1 := fun i => cell_of_ob ob1 i
  have r0 : W1.cell? ⟨w.heap.size, 0, none⟩ = some (.int .i64 4) := e1 0
  have r1 : W1.cell? ⟨w.heap.size, 1, none⟩ = some (.int .i64 lo) := e1 1
  have r2 : W1.cell? ⟨w.heap.size, 2, none⟩ = some (.int .i64 pg) := e1 2
  have r3 : W1.cell? ⟨w.heap.size, 3, none⟩ = some (.int .i64 hw) := e1 3
  have r4 : W1.cell? ⟨w.heap.size, 4, none⟩ = some (.int .i64 x.s) := e1 4
  have r5 : W1.cell? ⟨w.heap.size, 5, none⟩ = some (.int .i64 x.e) := e1 5
  have r6 : W1.cell? ⟨w.heap.size, 6, none⟩ = some (.int .i64 x.f) := e1 6
  have r7 : W1.cell? ⟨w.heap.size, 7, none⟩ = some (.int .i64 x.o) := e1 7
  have r8 : W1.cell? ⟨w.heap.size, 8, none⟩ = some (.bool x.sh) := e1 8
  have r9 : W1.cell? ⟨w.heap.size, 9, none⟩ = some (.int .i64 x.pr) := e1 9
  have r10 : W1.cell? ⟨w.heap.size, 10, none⟩ = some (.int .i64 x.mx) := e1 10
  have r11 : W1.cell? ⟨w.heap.size, 11, none⟩ = some (.int .i64 x.inh) := e1 11
  have r12 : W1.cell? ⟨w.heap.size, 12, none⟩ = some (.int .i64 x.adv) := e1 12
  have r13 : W1.cell? ⟨w.heap.size, 13, none⟩ = some (.bool x.wi) := e1 13
  have r14 : W1.cell? ⟨w.heap.size, 14, none⟩ = some (.bool on) := e1 14
  have HF := Lib.hid hf1
  clear e1 ob1 hf1 h1 h
  go_enter Try.func11, Try.ntmps11
  go_wp2_with fail
  try rw [hW1]
  refine hc.mono ?_
  rintro e w2 ⟨rfl, hf⟩
  have HF1 := Lib.hid (HF.out.also hf)
  clear hc hf hW1 r0 r1 r2 r3 r4 r5 r6 r7 r8 r9 r10 r11 r12 r13 r14
  go_wp2
  refine bodyPost_ret (results_tmp4 rfl _ _ _) rfl ?_
  exact ⟨rfl, HF1.out⟩
set_option maxRecDepth 100000 in
set_option maxHeartbeats 2000000 in
theorem act5_no (h : NM w pa) (lo pg hw : Int) (x : Ent) (on : Bool) :
    Calls Try.prog 11 #[.pointer pa, .agg #[.int .i64 5, .int .i64 lo, .int .i64 pg, .int .i64 hw, .int .i64 x.s, .int .i64 x.e, .int .i64 x.f, .int .i64 x.o, .bool x.sh, .int .i64 x.pr, .int .i64 x.mx, .int .i64 x.inh, .int .i64 x.adv, .bool x.wi, .bool on]] w fun e w' => e = .returned (.tuple #[.pointer pa, .int .i64 0, .slice none 0 0, .int .i64 1]) ∧ Fr (fun _ => False) w w' := by
  obtain ⟨W1, hW1⟩ : ∃ W1, w.alloc (.cells #[.int .i64 5, .int .i64 lo, .int .i64 pg, .int .i64 hw, .int .i64 x.s, .int .i64 x.e, .int .i64 x.f, .int .i64 x.o, .bool x.sh, .int .i64 x.pr, .int .i64 x.mx, .int .i64 x.inh, .int .i64 x.adv, .bool x.wi, .bool on] 30) = W1 := ⟨_, rfl⟩
  have hf1 : Fr (fun _ => False) w W1 := by rw [← hW1]; exact (Fr.refl _ _).alloc _
  have h1 := h.keep hf1
  have hc := Wire_no h1 lo pg on
  have ob1 : ob W1 w.heap.size = some (.cells #[.int .i64 5, .int .i64 lo, .int .i64 pg, .int .i64 hw, .int .i64 x.s, .int .i64 x.e, .int .i64 x.f, .int .i64 x.o, .bool x.sh, .int .i64 x.pr, .int .i64 x.mx, .int .i64 x.inh, .int .i64 x.adv, .bool x.wi, .bool on] 30 (0, 0)) := by rw [← hW1]; exact ob_new _ _
  have e1 := fun i => cell_of_ob ob1 i
  have r0 : W1.cell? ⟨w.heap.size, 0, none⟩ = some (.int .i64 5) := e1 0
  have r1 : W1.cell? ⟨w.heap.size, 1, none⟩ = some (.int .i64 lo) := e1 1
  have r2 : W1.cell? ⟨w.heap.size, 2, none⟩ = some (.int .i64 pg) := e1 2
  have r3 : W1.cell? ⟨w.heap.size, 3, none⟩ = some (.int .i64 hw) := e1 3
  have r4 : W1.cell? ⟨w.heap.size, 4, none⟩ = some (.int .i64 x.s) := e1 4
  have r5 : W1.cell? ⟨w.heap.size, 5, none⟩ = some (.int .i64 x.e) := e1 5
  have r6 : W1.cell? ⟨w.heap.size, 6, none⟩ = some (.int .i64 x.f) := e1 6
  have r7 : W1.cell? ⟨w.heap.size, 7, none⟩ = some (.int .i64 x.o) := e1 7
  have r8 : W1.cell? ⟨w.heap.size, 8, none⟩ = some (.bool x.sh) := e1 8
  have r9 : W1.cell? ⟨w.heap.size, 9, none⟩ = some (.int .i64 x.pr) := e1 9
  have r10 : W1.cell? ⟨w.heap.size, 10, none⟩ = some (.int .i64 x.mx) := e1 10
  have r11 : W1.cell? ⟨w.heap.size, 11, none⟩ = some (.int .i64 x.inh) := e1 11
  have r12 : W1.cell? ⟨w.heap.size, 12, none⟩ = some (.int .i64 x.adv) := e1 12
  have r13 : W1.cell? ⟨w.heap.size, 13, none⟩ = some (.bool x.wi) := e1 13
  have r14 : W1.cell? ⟨w.heap.size, 14, none⟩ = some (.bool on) := e1 14
  have HF := Lib.hid hf1
  clear e1 ob1 hf1 h1 h
  go_enter Try.func11, Try.ntmps11
  go_wp2_with fail
  try rw [hW1]
  refine hc.mono ?_
  rintro e w2 ⟨rfl, hf⟩
  have HF1 := Lib.hid (HF.out.also hf)
  clear hc hf hW1 r0 r1 r2 r3 r4 r5 r6 r7 r8 r9 r10 r11 r12 r13 r14
  go_wp2
  refine bodyPost_ret (results_tmp4 rfl _ _ _) rfl ?_
  exact ⟨rfl, HF1.out⟩
theorem actk_no (h : NM w pa) (K : Nat) (hK : K < 6) (lo pg hw : Int) (x : Ent) (on : Bool) :
    Calls Try.prog 11 #[.pointer pa, .agg #[.int .i64 (K : Int), .int .i64 lo, .int .i64 pg, .int .i64 hw, .int .i64 x.s, .int .i64 x.e, .int .i64 x.f, .int .i64 x.o, .bool x.sh, .int .i64 x.pr, .int .i64 x.mx, .int .i64 x.inh, .int .i64 x.adv, .bool x.wi, .bool on]] w fun e w' => e = .returned (.tuple #[.pointer pa, .int .i64 0, .slice none 0 0, .int .i64 1]) ∧ Fr (fun _ => False) w w' := by
  match K, hK with
  | 0, _ => exact act0_no h lo pg hw x on
  | 1, _ => exact act1_no h lo pg hw x on
  | 2, _ => exact act2_no h lo pg hw x on
  | 3, _ => exact act3_no h lo pg hw x on
  | 4, _ => exact act4_no h lo pg hw x on
  | 5, _ => exact act5_no h lo pg hw x on
end
end Go.Proofs.Ytopglbkcciigbaa
