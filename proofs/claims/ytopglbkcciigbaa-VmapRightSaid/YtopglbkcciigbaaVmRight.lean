/- VmapRight returns true: the walk. No conditions. -/
import Derived.Test.YtopglbkcciigbaaVmG
namespace Go.Proofs.Ytopglbkcciigbaa
open Go.RowKit
set_option linter.unusedSimpArgs false
set_option linter.unusedVariables false
attribute [local go_sem] Oper.semAt_some
set_option maxRecDepth 100000 in
set_option maxHeartbeats 8000000 in
theorem right_walk (W : World) (A : Option Addr) (N C : Nat) (acts : List VAct) (hx : Rd W 15 (.slice A N C) (acts.flatMap actC)) (hN : N = acts.length) (hw : ∀ a ∈ acts, WfA a) :
    Calls Try.prog 4 #[.slice A N C] W fun e w' => e = .returned (.bool true) ∧ Fr (fun _ => False) W w' := by
  have HN := Lib.hid hN
  have HW := Lib.hid hw
  have HX := Lib.hid (show ∀ w', Fr (fun _ => False) W w' → Rd w' 15 (.slice A N C) (acts.flatMap actC) from fun w' hf => hx.of hf (fun _ h => h.elim))
  clear hN hw hx
  by_cases hbig : 60 < N
  · go_enter Try.func4, Try.ntmps4
    go_wp2_with fail
    refine (vlives_any W).mono ?_
    rintro e w9 ⟨rfl, hf9⟩
    have HF9 := Lib.hid hf9
    clear hf9
    go_wp2
    go_ret
    exact ⟨rfl, HF9.out⟩
  · have hN6 : N ≤ 60 := by omega
    clear hbig
    go_enter Try.func4, Try.ntmps4
    go_wp2_with fail
    refine (vnew_any W).mono ?_
    rintro e w1 ⟨rfl, hm1, hf1⟩
    obtain ⟨b0, hb0⟩ : ∃ b0, W.heap.size = b0 := ⟨_, rfl⟩
    rw [hb0] at hm1
    simp only [hb0]
    have HI0 := Lib.hid (show VOK [] ∧ ([] : List Ent).length ≤ 3 * 0 ∧ W.heap.size ≤ b0 ∧ (∀ k, (Value.slice none 0 0).ownBlock = some k → W.heap.size ≤ k) ∧ Fr (fun _ => False) W w1 from ⟨VOK.nil, by simp, by omega, (fun k hk => by cases hk), hf1⟩)
    clear hb0 hf1
    go_wp2_with fail
    go_loopw [3, 21] (fun sm si wr => ∃ (t b : Nat) (v : Value) (l : List Ent), t ≤ N ∧ si = .int .i64 t ∧ sm = .pointer (some ⟨b, 0, none⟩) ∧ MT wr b v l ∧ Hid (VOK l ∧ l.length ≤ 3 * t ∧ W.heap.size ≤ b ∧ (∀ k, v.ownBlock = some k → W.heap.size ≤ k) ∧ Fr (fun _ => False) W wr)) (fun _ si _ => N - (intOf si).toNat)
    case atStart => exact ⟨0, b0, .slice none 0 0, [], Nat.zero_le _, rfl, rfl, hm1, HI0⟩
    case round =>
      clear hm1
      obtain ⟨t, b, v, l, ht, rfl, rfl, hm, HI⟩ := hrel
      by_cases hlt : t < N
      · obtain ⟨a, hat⟩ : ∃ a, acts[t]? = some a := ⟨_, List.getElem?_eq_getElem (by have := HN.out; omega)⟩
        obtain ⟨g, off, n', cap', heq, hgl, hcs⟩ := Rd.at actC_len (by decide) (HX.out wr HI.out.2.2.2.2) hat
        cases heq
        have d0 : wr.cell? ⟨g, off + t * 15, none⟩ = some (.int .i64 a.kd) := hcs 0 _ rfl
        have d1 : wr.cell? ⟨g, off + t * 15 + 1, none⟩ = some (.int .i64 a.lo) := hcs 1 _ rfl
        have d2 : wr.cell? ⟨g, off + t * 15 + 2, none⟩ = some (.int .i64 a.pg) := hcs 2 _ rfl
        have d3 : wr.cell? ⟨g, off + t * 15 + 3, none⟩ = some (.int .i64 a.hw) := hcs 3 _ rfl
        have d4 : wr.cell? ⟨g, off + t * 15 + 4, none⟩ = some (.int .i64 a.x.s) := hcs 4 _ rfl
        have d5 : wr.cell? ⟨g, off + t * 15 + 5, none⟩ = some (.int .i64 a.x.e) := hcs 5 _ rfl
        have d6 : wr.cell? ⟨g, off + t * 15 + 6, none⟩ = some (.int .i64 a.x.f) := hcs 6 _ rfl
        have d7 : wr.cell? ⟨g, off + t * 15 + 7, none⟩ = some (.int .i64 a.x.o) := hcs 7 _ rfl
        have d8 : wr.cell? ⟨g, off + t * 15 + 8, none⟩ = some (.bool a.x.sh) := hcs 8 _ rfl
        have d9 : wr.cell? ⟨g, off + t * 15 + 9, none⟩ = some (.int .i64 a.x.pr) := hcs 9 _ rfl
        have d10 : wr.cell? ⟨g, off + t * 15 + 10, none⟩ = some (.int .i64 a.x.mx) := hcs 10 _ rfl
        have d11 : wr.cell? ⟨g, off + t * 15 + 11, none⟩ = some (.int .i64 a.x.inh) := hcs 11 _ rfl
        have d12 : wr.cell? ⟨g, off + t * 15 + 12, none⟩ = some (.int .i64 a.x.adv) := hcs 12 _ rfl
        have d13 : wr.cell? ⟨g, off + t * 15 + 13, none⟩ = some (.bool a.x.wi) := hcs 13 _ rfl
        have d14 : wr.cell? ⟨g, off + t * 15 + 14, none⟩ = some (.bool a.on) := hcs 14 _ rfl
        have HWA := Lib.hid (HW.out a (List.mem_of_getElem? hat))
        have hll : l.length ≤ 380 := by have := HI.out.2.1; omega
        obtain ⟨W1, hW1⟩ : ∃ W1, wr.alloc (.cells #[.int .i64 a.kd, .int .i64 a.lo, .int .i64 a.pg, .int .i64 a.hw, .int .i64 a.x.s, .int .i64 a.x.e, .int .i64 a.x.f, .int .i64 a.x.o, .bool a.x.sh, .int .i64 a.x.pr, .int .i64 a.x.mx, .int .i64 a.x.inh, .int .i64 a.x.adv, .bool a.x.wi, .bool a.on] 30) = W1 := ⟨_, rfl⟩
        obtain ⟨ba, hba⟩ : ∃ ba, wr.heap.size = ba := ⟨_, rfl⟩
        have hfa : Fr (fun _ => False) wr W1 := by rw [← hW1]; exact (Fr.refl _ _).alloc _
        have hoa : ob W1 ba = some (.cells #[.int .i64 a.kd, .int .i64 a.lo, .int .i64 a.pg, .int .i64 a.hw, .int .i64 a.x.s, .int .i64 a.x.e, .int .i64 a.x.f, .int .i64 a.x.o, .bool a.x.sh, .int .i64 a.x.pr, .int .i64 a.x.mx, .int .i64 a.x.inh, .int .i64 a.x.adv, .bool a.x.wi, .bool a.on] 30 (0, 0)) := by rw [← hW1, ← hba]; exact ob_new _ _
        have h1 := hm.keep hfa
        have hbb : b < ba := by have := hm.lt; omega
        have hen := ents_any h1 (by omega)
        have HFA := Lib.hid hfa
        have HOA := Lib.hid hoa
        have HBA := Lib.hid hba
        have HM := Lib.hid hm
        have HM1 := Lib.hid h1
        clear hat hcs hgl hfa hoa h1 hm
        go_wp2_with fail
        try rw [hW1]
        try rw [hba]
        clear hW1 hba d0 d1 d2 d3 d4 d5 d6 d7 d8 d9 d10 d11 d12 d13 d14
        refine hen.mono ?_
        rintro e w2 ⟨was, rfl, hsw, hf2, how⟩
        clear hen
        have h2 := HM1.out.keep hf2
        have hfk := vfork_any h2 (by omega) HI.out.1.right
        have HSW := Lib.hid hsw
        have HOW := Lib.hid how
        have HF2 := Lib.hid hf2
        have HM2 := Lib.hid h2
        clear hsw how hf2 h2
        go_wp2_with fail
        refine hfk.mono ?_
        rintro e w3 ⟨bc, vc, rfl, hc3, hbc, hoc, hf3⟩
        clear hfk
        have hec := ents_any hc3 (by have := (fork_ok HI.out.1).2; omega)
        have HC3 := Lib.hid hc3
        have HBC := Lib.hid hbc
        have HOC := Lib.hid hoc
        have HF3 := Lib.hid hf3
        clear hc3 hbc hoc hf3
        go_wp2_with fail
        refine hec.mono ?_
        rintro e w4 ⟨sons, rfl, hss, hf4, hos⟩
        clear hec
        have hf14 := (HF2.out.also HF3.out).also hf4
        have h4 := HM1.out.keep hf14
        have hact := act_any h4 (by omega) HI.out.1.right a HWA.out.x
        simp only [actC, ent, List.cons_append, List.nil_append] at hact
        have hoa4 := hf14.keep (fun h => h) HOA.out
        have e4 := fun i => cell_of_ob hoa4 i
        have s4 := ob_lt hoa4
        have r0 : w4.cell? ⟨ba, 0, none⟩ = some (.int .i64 a.kd) := e4 0
        have r1 : w4.cell? ⟨ba, 1, none⟩ = some (.int .i64 a.lo) := e4 1
        have r2 : w4.cell? ⟨ba, 2, none⟩ = some (.int .i64 a.pg) := e4 2
        have r3 : w4.cell? ⟨ba, 3, none⟩ = some (.int .i64 a.hw) := e4 3
        have r4 : w4.cell? ⟨ba, 4, none⟩ = some (.int .i64 a.x.s) := e4 4
        have r5 : w4.cell? ⟨ba, 5, none⟩ = some (.int .i64 a.x.e) := e4 5
        have r6 : w4.cell? ⟨ba, 6, none⟩ = some (.int .i64 a.x.f) := e4 6
        have r7 : w4.cell? ⟨ba, 7, none⟩ = some (.int .i64 a.x.o) := e4 7
        have r8 : w4.cell? ⟨ba, 8, none⟩ = some (.bool a.x.sh) := e4 8
        have r9 : w4.cell? ⟨ba, 9, none⟩ = some (.int .i64 a.x.pr) := e4 9
        have r10 : w4.cell? ⟨ba, 10, none⟩ = some (.int .i64 a.x.mx) := e4 10
        have r11 : w4.cell? ⟨ba, 11, none⟩ = some (.int .i64 a.x.inh) := e4 11
        have r12 : w4.cell? ⟨ba, 12, none⟩ = some (.int .i64 a.x.adv) := e4 12
        have r13 : w4.cell? ⟨ba, 13, none⟩ = some (.bool a.x.wi) := e4 13
        have r14 : w4.cell? ⟨ba, 14, none⟩ = some (.bool a.on) := e4 14
        have HSS := Lib.hid hss
        have HOS := Lib.hid hos
        have HF4 := Lib.hid hf4
        have HF14 := Lib.hid hf14
        have HM4 := Lib.hid h4
        clear e4 hoa4 hss hos hf4 hf14 h4
        go_wp2_with fail
        refine hact.mono ?_
        rintro e w5 ⟨b', v', gn, rfl, hsg, hog, hm5, hkd, hov, hf5⟩
        clear hact r0 r1 r2 r3 r4 r5 r6 r7 r8 r9 r10 r11 r12 r13 r14
        have hb2 : b < w2.heap.size := by have := HF2.out.size; have := HFA.out.size; have := HM.out.lt; omega
        have hb1 : b < W1.heap.size := by have := HFA.out.size; have := HM.out.lt; omega
        have hs24 : w2.heap.size ≤ w4.heap.size := by have := HF3.out.size; have := HF4.out.size; omega
        have hb3 : b < w3.heap.size := by have := HF3.out.size; omega
        have hwas : SE w5 was l := Sl.fr (Sl.fr HSW.out (HF3.out.also HF4.out) (fun _ _ h => h)) hf5 (fun k hk e => by have := HOW.out k hk; omega)
        have hch : MT w5 bc vc (forkV l) := (HC3.out.keep HF4.out).fr hf5 (by have := HBC.out; omega) (fun k hk e => by have := HOC.out k hk; omega)
        have hsn : SE w5 sons (forkV l) := Sl.fr HSS.out hf5 (fun k hk e => by have := HOS.out k hk; omega)
        have hok := act_ok HI.out.1 (a := a) HWA.out.x
        obtain ⟨l', hl'⟩ : ∃ l', (actV l a).l = l' := ⟨_, rfl⟩
        obtain ⟨er, her⟩ : ∃ er, (actV l a).err = er := ⟨_, rfl⟩
        have herr := act_err (l := l) (a := a)
        rw [hl', her] at herr
        rw [hl'] at hok hm5
        simp only [her]
        have hfW : Fr (fun _ => False) W w5 := ((HI.out.2.2.2.2.also HFA.out).also HF14.out).step hf5 (fun k hk => .inr (by have := HI.out.2.2.1; omega))
        have hbW : W.heap.size ≤ b' := by
          rcases hkd with ⟨h, _⟩ | ⟨h, _⟩
          · have := HI.out.2.2.1; omega
          · have := HF14.out.size; have := HFA.out.size; have := HI.out.2.2.2.2.size; omega
        have hoW : ∀ k, v'.ownBlock = some k → W.heap.size ≤ k := fun k hk => by
          rcases hov k hk with h | h
          · exact HI.out.2.2.2.1 k h
          · have := HF14.out.size; have := HFA.out.size; have := HI.out.2.2.2.2.size; omega
        have HNEW := Lib.hid (show VOK l' ∧ l'.length ≤ 3 * (t + 1) ∧ W.heap.size ≤ b' ∧ (∀ k, v'.ownBlock = some k → W.heap.size ≤ k) ∧ Fr (fun _ => False) W w5 from ⟨hok.1, by have := hok.2; have := HI.out.2.1; omega, hbW, hoW, hfW⟩)
        have HKD := Lib.hid hkd
        have HERR := Lib.hid herr
        have hl2 : l'.length ≤ 390 := by have := HNEW.out.2.1; omega
        obtain ⟨Aw, Nw, Cw, rfl⟩ := hwas.shape
        obtain ⟨As, Ns, Cs, rfl⟩ := hsn.shape
        have HWAS := Lib.hid hwas
        have HCH := Lib.hid hch
        have HSN := Lib.hid hsn
        have HM5 := Lib.hid hm5
        clear hl' her herr hok hfW hbW hoW hkd hwas hch hsn hm5 hov hf5 hsg hog hb2 hb1 hs24 hb3
        by_cases hz : er = 0
        · subst hz
          have hce := ents_any HCH.out (by have := (fork_ok HI.out.1).2; omega)
          go_wp2_with fail
          refine hce.mono ?_
          rintro e w6 ⟨x6, rfl, hs6, hf6, ho6⟩
          obtain ⟨A6, N6, C6, rfl⟩ := hs6.shape
          have hsa := same_any (Sl.rd hs6) (Sl.rd (Sl.fr HSN.out hf6 (fun _ _ h => h))) (by have := (fork_ok HI.out.1).2; omega) (by have := (fork_ok HI.out.1).2; omega)
          rw [decide_eq_true rfl] at hsa
          have HF6 := Lib.hid hf6
          clear hce hs6 ho6 hf6
          go_wp2_with fail
          refine hsa.mono ?_
          rintro e w7 ⟨rfl, hf7⟩
          have HF7 := Lib.hid (HF6.out.also hf7)
          clear hsa hf7
          have h7 := HM5.out.keep HF7.out
          have hen := ents_any h7 (by omega)
          have HM7 := Lib.hid h7
          clear h7
          go_wp2_with fail
          refine hen.mono ?_
          rintro e w8 ⟨x8, rfl, hs8, hf8, ho8⟩
          obtain ⟨A8, N8, C8, rfl⟩ := hs8.shape
          have hri := eright_any (Sl.rd hs8) (by omega) HNEW.out.1.wf
          rw [HNEW.out.1.right] at hri
          have hN8 : N8 = l'.length := SE.elen hs8
          have HS8 := Lib.hid hs8
          have HN8 := Lib.hid hN8
          have HF8 := Lib.hid (HF7.out.also hf8)
          clear hen hs8 hN8 hf8 ho8
          go_wp2_with fail
          refine hri.mono ?_
          rintro e w9 ⟨rfl, hf9⟩
          clear hri
          have hme := merge_any (Sl.rd (Sl.fr HS8.out hf9 (fun _ _ h => h))) (by omega) HNEW.out.1.right
          rw [HNEW.out.1.merged] at hme
          have HF9 := Lib.hid (HF8.out.also hf9)
          clear hf9
          go_wp2_with fail
          refine hme.mono ?_
          rintro e w10 ⟨x10, rfl, hs10, hf10, ho10⟩
          obtain ⟨A10, N10, C10, rfl⟩ := hs10.shape
          have hNN : N10 = N8 := (SE.elen hs10).trans HN8.out.symm
          have HF10 := Lib.hid (HF9.out.also hf10)
          subst hNN
          clear hme hs10 hf10 ho10
          go_wp2
          go_roundw
          case rel => exact ⟨t + 1, b', v', l', by omega, by go_num, rfl, HM5.out.keep HF10.out, Lib.hid ⟨HNEW.out.1, HNEW.out.2.1, HNEW.out.2.2.1, HNEW.out.2.2.2.1, HNEW.out.2.2.2.2.also HF10.out⟩⟩
          case measure => simp [intOf]; omega
        · obtain ⟨hll', hk6⟩ := HERR.out hz
          subst hll'
          obtain rfl : b' = b := by rcases HKD.out with ⟨h, _⟩ | ⟨_, h⟩; exact h; exact absurd h hk6
          clear hk6
          have hme := ents_any HM5.out (by omega)
          go_wp2_with fail
          refine hme.mono ?_
          rintro e w6 ⟨x6, rfl, hs6, hf6, ho6⟩
          obtain ⟨A6, N6, C6, rfl⟩ := hs6.shape
          have hsa := same_any (Sl.rd hs6) (Sl.rd (Sl.fr HWAS.out hf6 (fun _ _ h => h))) (by omega) (by omega)
          rw [decide_eq_true rfl] at hsa
          have HF6 := Lib.hid hf6
          clear hme hs6 ho6 hf6
          go_wp2_with fail
          refine hsa.mono ?_
          rintro e w7a ⟨rfl, hf7⟩
          have HF7a := Lib.hid (HF6.out.also hf7)
          clear hsa hf7
          have hce := ents_any (HCH.out.keep HF7a.out) (by have := (fork_ok HI.out.1).2; omega)
          go_wp2_with fail
          refine hce.mono ?_
          rintro e w6b ⟨x6b, rfl, hs6, hf6, ho6⟩
          obtain ⟨A6b, N6b, C6b, rfl⟩ := hs6.shape
          have hsa := same_any (Sl.rd hs6) (Sl.rd (Sl.fr HSN.out (HF7a.out.also hf6) (fun _ _ h => h))) (by have := (fork_ok HI.out.1).2; omega) (by have := (fork_ok HI.out.1).2; omega)
          rw [decide_eq_true rfl] at hsa
          have HF6b := Lib.hid (HF7a.out.also hf6)
          clear hce hs6 ho6 hf6
          go_wp2_with fail
          refine hsa.mono ?_
          rintro e w7 ⟨rfl, hf7⟩
          have HF7 := Lib.hid (HF6b.out.also hf7)
          clear hsa hf7
          have h7 := HM5.out.keep HF7.out
          have hen := ents_any h7 (by omega)
          have HM7 := Lib.hid h7
          clear h7
          go_wp2_with fail
          refine hen.mono ?_
          rintro e w8 ⟨x8, rfl, hs8, hf8, ho8⟩
          obtain ⟨A8, N8, C8, rfl⟩ := hs8.shape
          have hri := eright_any (Sl.rd hs8) (by omega) HNEW.out.1.wf
          rw [HNEW.out.1.right] at hri
          have hN8 : N8 = l'.length := SE.elen hs8
          have HS8 := Lib.hid hs8
          have HN8 := Lib.hid hN8
          have HF8 := Lib.hid (HF7.out.also hf8)
          clear hen hs8 hN8 hf8 ho8
          go_wp2_with fail
          refine hri.mono ?_
          rintro e w9 ⟨rfl, hf9⟩
          clear hri
          have hme := merge_any (Sl.rd (Sl.fr HS8.out hf9 (fun _ _ h => h))) (by omega) HNEW.out.1.right
          rw [HNEW.out.1.merged] at hme
          have HF9 := Lib.hid (HF8.out.also hf9)
          clear hf9
          go_wp2_with fail
          refine hme.mono ?_
          rintro e w10 ⟨x10, rfl, hs10, hf10, ho10⟩
          obtain ⟨A10, N10, C10, rfl⟩ := hs10.shape
          have hNN : N10 = N8 := (SE.elen hs10).trans HN8.out.symm
          have HF10 := Lib.hid (HF9.out.also hf10)
          subst hNN
          clear hme hs10 hf10 ho10
          go_wp2
          go_roundw
          case rel => exact ⟨t + 1, b', v', l', by omega, by go_num, rfl, HM5.out.keep HF10.out, Lib.hid ⟨HNEW.out.1, HNEW.out.2.1, HNEW.out.2.2.1, HNEW.out.2.2.2.1, HNEW.out.2.2.2.2.also HF10.out⟩⟩
          case measure => simp [intOf]; omega
      · obtain rfl : t = N := by omega
        go_wp2_with fail
        refine (vlives_any wr).mono ?_
        rintro e w9 ⟨rfl, hf9⟩
        have HF9 := Lib.hid (HI.out.2.2.2.2.also hf9)
        clear hf9 hm
        go_wp2
        go_ret
        exact ⟨rfl, HF9.out⟩
end Go.Proofs.Ytopglbkcciigbaa
