/- The document's examples of maps ('lives' of layer 16). No conditions. -/
import Derived.Test.YtopglbkcciigbaaVmF
namespace Go.Proofs.Ytopglbkcciigbaa
open Go.RowKit
set_option linter.unusedSimpArgs false
set_option linter.unusedVariables false
attribute [local go_sem] Oper.semAt_some
def livE : Ent := ⟨0, 3, 0, 0, false, 7, 7, 0, 0, false⟩
def livA : List Ent := [⟨5, 8, 0, 0, false, 7, 7, 0, 0, false⟩]
def livB : List Ent := [⟨5, 6, 0, 0, false, 7, 7, 0, 0, false⟩, ⟨6, 7, 0, 0, false, 1, 7, 0, 0, false⟩, ⟨7, 8, 0, 0, false, 7, 7, 0, 0, false⟩]
def livC : List Ent := [⟨5, 8, 0, 0, false, 1, 7, 0, 0, false⟩]
theorem liv1 : mapV [] 5 livE true = ⟨5, [], 0, livA⟩ := by kernel_rfl
theorem liv2 : setV livA 6 1 (okP 1) (mayP 1) (prE 1) = ⟨0, [], 0, livB⟩ := by kernel_rfl
theorem liv3 : setV livB 5 3 (okP 1) (mayP 1) (prE 1) = ⟨0, [], 0, livC⟩ := by kernel_rfl
theorem livW : WfE livE := good_wf (by decide +kernel) (wf64_of (by decide) (by decide))
set_option maxRecDepth 100000 in
set_option maxHeartbeats 2000000 in
theorem vlives_any (w : World) : Calls Try.prog 9 #[] w fun e w' => e = .returned (.bool true) ∧ Fr (fun _ => False) w w' := by
  go_enter Try.func9, Try.ntmps9
  go_wp2_with fail
  refine (vnew_any w).mono ?_
  rintro e w1 ⟨rfl, h1, hf1⟩
  obtain ⟨b, hb⟩ : ∃ b, w.heap.size = b := ⟨_, rfl⟩
  rw [hb] at h1
  have hc := vmapm_any h1 (by simp) rfl 5 livE livW true
  rw [liv1] at hc
  simp only [livE] at hc
  simp only [hb]
  have HB := Lib.hid hb
  clear hb
  go_wp2_with fail
  refine hc.mono ?_
  rintro e w2 ⟨g, rfl, -, -, v2, h2, -, hf2⟩
  clear hc
  have hc := vProtect h2 (by decide) (by decide +kernel) 6 1 1
  rw [liv2] at hc
  go_wp2_with fail
  refine hc.mono ?_
  rintro e w3 ⟨rfl, v3, h3, -, hf3⟩
  clear hc
  go_wp2_with fail
  refine (ents_any h3 (by decide)).mono ?_
  rintro e w4 ⟨v4, rfl, hs4, hf4, -⟩
  obtain ⟨A4, N4, C4, rfl⟩ := hs4.shape
  obtain rfl : N4 = 3 := SE.elen hs4
  have h4 := h3.keep hf4
  have hc := vProtect h4 (by decide) (by decide +kernel) 5 3 1
  rw [liv3] at hc
  clear hs4
  go_wp2_with fail
  refine hc.mono ?_
  rintro e w5 ⟨rfl, v5, h5, -, hf5⟩
  clear hc
  go_wp2_with fail
  refine (ents_any h5 (by decide)).mono ?_
  rintro e w6 ⟨v6, rfl, hs6, hf6, -⟩
  obtain ⟨A6, N6, C6, rfl⟩ := hs6.shape
  obtain rfl : N6 = 1 := SE.elen hs6
  have HF := Lib.hid (show Fr (fun _ => False) w w6 from ((((hf1.step hf2 (fun k hk => .inr (by have := HB.out; omega))).step hf3 (fun k hk => .inr (by have := HB.out; omega))).also hf4).step hf5 (fun k hk => .inr (by have := HB.out; omega))).also hf6)
  clear hf1 hf2 hf3 hf4 hf5 hf6 h1 h2 h3 h4 h5 hs6
  go_wp2
  go_ret
  exact ⟨rfl, HF.out⟩
end Go.Proofs.Ytopglbkcciigbaa
