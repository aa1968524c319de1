/- ObjectActs returns true: the walk. No conditions. -/
import Derived.Test.YtopfknikmhkaeaaOrP
import Derived.Test.YtopfknikmhkaeaaObPgC
import Derived.Test.YtopfknikmhkaeaaQuietI
import Derived.Test.YtopfknikmhkaeaaObLives
import Derived.Test.YtopfknikmhkaeaaObLeaf
import Derived.Test.YtopfknikmhkaeaaFlat
import Derived.Deep.CutBlock
import Derived.Deep.CutRange
import Derived.Deep.RegionHeld3
import Derived.BigQuiet
namespace Go.Proofs.Ytopfknikmhkaeaa
open Go.RowKit
set_option linter.unusedSimpArgs false
set_option linter.unusedVariables false
attribute [local go_sem] Oper.semAt_some
/-! ### Pages of the document's compared -/
theorem eqin_rpg (a b : Int) (c : Bool) (x y : Int) (z : Bool) (w : World) : (Op.equalIn 10000 57 (.agg #[.int .i64 a, .int .i64 b, .bool c]) (.agg #[.int .i64 x, .int .i64 y, .bool z])).run Try.prog w = .ok (pgeq a b c x y z) w := by
  unfold pgeq
  have u3 := Try.underlying3
  have a3 := Try.isAgg3
  have z3 := Try.sizeOf3
  have u4 := Try.underlying4
  have a4 := Try.isAgg4
  have z4 := Try.sizeOf4
  have hS : Try.prog.underlying 57 = some (.struct (Try.prog.fieldsOf 57)) := by kernel_rfl
  rw [show (10000 : Nat) = 9999 + 1 from rfl, run_equalIn_agg w 9999 57 _ _ hS (by kernel_rfl)]
  simp only [Program.fieldsOf, Try.underlying57]
  go_simp
  by_cases h1 : a = x <;> by_cases h2 : b = y <;> cases c <;> cases z <;> simp [h1, h2]
def neRPg (a b : Int) (c : Bool) (x y : Int) (z : Bool) : Sem Value := binOp .neq 57 (.agg #[.int .i64 a, .int .i64 b, .bool c]) (.agg #[.int .i64 x, .int .i64 y, .bool z])
@[go_sem high] theorem to_neRPg (a b : Int) (c : Bool) (x y : Int) (z : Bool) : binOp .neq 57 (.agg #[.int .i64 a, .int .i64 b, .bool c]) (.agg #[.int .i64 x, .int .i64 y, .bool z]) = neRPg a b c x y z := rfl
@[go_sem] theorem run_neRPg (a b : Int) (c : Bool) (x y : Int) (z : Bool) (w : World) : (neRPg a b c x y z).run Try.prog w = .ok (.bool (!pgeq a b c x y z)) w := by
  change Sem.run Try.prog (Op.equalIn 10000 57 _ _ >>= _) w = _
  rw [Sem.run_bind, eqin_rpg]
  rfl
/-! ### Both pools -/
abbrev TwoO (b : Nat) (most : Int) (l : List (Int × Obt)) (rb : Nat) (R : List (Option Obt)) : Thing := Star (ObX b most l) (ORX rb most R)
section
variable {W w w1 : World} {P : Nat → Prop} {b rb : Nat} {most : Int} {l : List (Int × Obt)} {R R2 : List (Option Obt)} {f : FuncId} {args : Array Value} {G : Ending → Prop}
theorem TwoO.steady : Steady (TwoO b most l rb R) := (ObX.steady _ _ _).star (ORX.steady _ _ _)
theorem yO (h : Held P W w (TwoO b most l rb R)) (hP : ∀ k, P k → k < w.heap.size)
    (hc : ∀ S, ORX rb most R w S → Calls Try.prog f args w fun e w' => G e ∧ ORX rb most R2 w' (fun k => S k ∨ w.heap.size ≤ k) ∧ Fr S w w') :
    Calls Try.prog f args w fun e w' => G e ∧ Held P W w' (TwoO b most l rb R2) ∧ ∀ k o, P k → ob w k = some o → ob w' k = some o := by
  refine (Held.call (ObX.steady _ _ _) (ORX.steady _ _ _) h.swap hP hc).mono ?_
  rintro e w' ⟨x, y, z⟩
  exact ⟨x, y.swap, z⟩
end
theorem fr_drewO (w : World) (p : Nat) : Fr (fun _ => False) w (w.drewN p) := ⟨rfl, rfl, rfl, Nat.le_refl _, fun _ _ _ => rfl⟩
theorem at_len4 : ∀ l : List (Int × Pg), (l.flatMap atE).length = l.length * 4
  | [] => rfl
  | x :: l => by rw [List.flatMap_cons, List.length_append, at_len4 l, atE_len, List.length_cons]; omega
/-- An act: kind, object, number, page. -/
abbrev O6 := Int × Int × Int × Int × Int × Bool
def o6 (x : O6) : List Value := [.int .i64 x.1, .int .i64 x.2.1, .int .i64 x.2.2.1, .int .i64 x.2.2.2.1, .int .i64 x.2.2.2.2.1, .bool x.2.2.2.2.2]
theorem o6_len (x : O6) : (o6 x).length = 6 := rfl
theorem leaf_o6 (cs : List Value) (h : leafAll [.int .i64, .int .i64, .int .i64, .int .i64, .int .i64, .bool] cs) : ∃ x : O6, o6 x = cs ∧ True := by
  obtain ⟨x0, x1, x2, x3, x4, x5, rfl⟩ := leaf_oa cs h
  exact ⟨(x0, x1, x2, x3, x4, x5), rfl, trivial⟩
/-- The law's own variables, and the marks of the ranges that are over. -/
def LocO (w W : World) (ba : Nat) (lo hi stop : Int) (Ds : List Nat) : Prop :=
  ob w ba = some (.cells #[.int .i64 lo, .int .i64 hi, .int .i64 stop] 48 (0, 0)) ∧ ob w (ba + 1) = some (.cells #[.bool false] 4 (0, 0)) ∧ Ds.Nodup ∧ ∀ D ∈ Ds, ob w D = some (.deferred (some [])) ∧ W.heap.size ≤ D
theorem LocO.of {w w1 W : World} {ba : Nat} {lo hi stop : Int} {Ds : List Nat} (h : LocO w W ba lo hi stop Ds) (hk : ∀ k o, (k = ba ∨ k = ba + 1 ∨ k ∈ Ds) → ob w k = some o → ob w1 k = some o) : LocO w1 W ba lo hi stop Ds :=
  ⟨hk _ _ (.inl rfl) h.1, hk _ _ (.inr (.inl rfl)) h.2.1, h.2.2.1, fun D hD => ⟨hk _ _ (.inr (.inr hD)) (h.2.2.2 D hD).1, (h.2.2.2 D hD).2⟩⟩
theorem LocO.fr {w w1 W : World} {ba : Nat} {lo hi stop : Int} {Ds : List Nat} (h : LocO w W ba lo hi stop Ds) (hf : Fr (fun _ => False) w w1) : LocO w1 W ba lo hi stop Ds := h.of fun k o _ ho => hf.keep (fun h => h) ho
theorem LocO.lt {w W : World} {ba : Nat} {lo hi stop : Int} {Ds : List Nat} (h : LocO w W ba lo hi stop Ds) : ∀ k, (k = ba ∨ k = ba + 1 ∨ k ∈ Ds) → k < w.heap.size := fun k hk => by
  rcases hk with rfl | rfl | hk
  · exact ob_lt h.1
  · exact ob_lt h.2.1
  · exact ob_lt (h.2.2.2 k hk).1
/-- What a round finds. -/
def OARel (W : World) (N ba b rb : Nat) (most lo hi stop : Int) (s : Value) (ds : List Deferred) (w : World) : Prop :=
  ∃ (j : Nat) (Ds : List Nat) (l : List (Int × Obt)) (R : List (Option Obt)), j ≤ N ∧ s = .int .i64 j ∧ ds = marks Ds ∧ Held (fun k => k = ba ∨ k = ba + 1 ∨ k ∈ Ds) W w (TwoO b most l rb R) ∧ Hid (PO l R ∧ R.length ≤ j) ∧ Hid (LocO w W ba lo hi stop Ds)
set_option maxRecDepth 1000000 in
def OAI (W : World) (A : Option Addr) (N C ba b rb : Nat) (most lo hi stop : Int) (a : Act) (w : World) : Prop :=
  ∃ u10 u11 u12 u13 u14 u15 u16 u17 u18 u19 u20 u21 u22 u23 u24 u25 u26 u27 u28 u48 u49 u50 u51 u52 u53 u54 u55 u56 u57 u58 u59 u60 u61 u62 u63 u64 u65 u66 u67 u68 u69 u70 u71 u72 u73 u74 u75 u76 u77 u78 u79 u80 u81 u82 u83 u84 u85 u86 u87 u88 u89 u90 u91 u92 u93 u94 u95 u96 u97 u98 u99 u100 u101 u102 u103 u104 u105 u106 u107 u108 u109 u110 u111 u112 u113 u114 u115 u116 u117 u118 u119 u120 u121 u122 u123 u124 u125 u126 u127 u128 u129 u130 u131 u132 u133 u134 u135 u136 u137 u138 u139 u140 u141 u142 u143 u144 u145 u146 u147 u148 u149 u150 u151 u152 u153 u154 u155 u156 u157 u158 u159 u160 u161 u162 u163 u164 u165 u166 u167 u168 u169 u170 u171 u172 u173 u174 u175 u176 u177 u178 u179 u180 u181 u182 u183 u184 u185 u186 u187 u188 u189 u190 u191 u192 u193 u194 u195 u196 u197 u198 u199 u200 u201 u202 u203 u204 u205 u206 u207 u208 u209 u210 u211 u212 u213 u214 u215 u216 u217 u218 u219 u220 u221 u222 u223 u224 u225 u226 u227 u228 u229 u230 u231 u232 u233 u234 u235 u236 u237 u238 u239 u240 u241 u242 u243 u244 u245 u246 u247 u248 u249 u250 u251 u252 u253 u254 u255 u256 u257 u258 u259 u260 u261 u262 u263 u264 u265 : Value, ∃ ds : List Deferred, OARel W N ba b rb most lo hi stop u48 ds w ∧ a = { tmps := ((.int .i64 most) :: (.slice A N C) :: (.agg #[.int .i64 lo, .int .i64 hi, .int .i64 stop]) :: undef :: undef :: (.pointer (some ⟨ba, 0, none⟩)) :: (.pointer (some ⟨ba + 1, 0, none⟩)) :: (.pointer (some ⟨b, 0, none⟩)) :: (.pointer (some ⟨rb, 0, none⟩)) :: undef :: u10 :: u11 :: u12 :: u13 :: u14 :: u15 :: u16 :: u17 :: u18 :: u19 :: u20 :: u21 :: u22 :: u23 :: u24 :: u25 :: u26 :: u27 :: u28 :: (.int .i64 most) :: (.pointer (some ⟨b, 0, none⟩)) :: (.int .i64 most) :: (.pointer (some ⟨rb, 0, none⟩)) :: (.pointer (some ⟨b, 0, none⟩)) :: (.bool false) :: (.pointer (some ⟨rb, 0, none⟩)) :: (.bool false) :: (.bool false) :: (.pointer (some ⟨rb, 0, none⟩)) :: (.bool false) :: (.bool false) :: (.slice A N C) :: (.int .i64 N) :: (.bool (decide (120 < (N : Int)))) :: (.bool (decide (120 < (N : Int)))) :: undef :: (.slice A N C) :: (.int .i64 N) :: u48 :: u49 :: u50 :: u51 :: u52 :: u53 :: u54 :: u55 :: u56 :: u57 :: u58 :: u59 :: u60 :: u61 :: u62 :: u63 :: u64 :: u65 :: u66 :: u67 :: u68 :: u69 :: u70 :: u71 :: u72 :: u73 :: u74 :: u75 :: u76 :: u77 :: u78 :: u79 :: u80 :: u81 :: u82 :: u83 :: u84 :: u85 :: u86 :: u87 :: u88 :: u89 :: u90 :: u91 :: u92 :: u93 :: u94 :: u95 :: u96 :: u97 :: u98 :: u99 :: u100 :: u101 :: u102 :: u103 :: u104 :: u105 :: u106 :: u107 :: u108 :: u109 :: u110 :: u111 :: u112 :: u113 :: u114 :: u115 :: u116 :: u117 :: u118 :: u119 :: u120 :: u121 :: u122 :: u123 :: u124 :: u125 :: u126 :: u127 :: u128 :: u129 :: u130 :: u131 :: u132 :: u133 :: u134 :: u135 :: u136 :: u137 :: u138 :: u139 :: u140 :: u141 :: u142 :: u143 :: u144 :: u145 :: u146 :: u147 :: u148 :: u149 :: u150 :: u151 :: u152 :: u153 :: u154 :: u155 :: u156 :: u157 :: u158 :: u159 :: u160 :: u161 :: u162 :: u163 :: u164 :: u165 :: u166 :: u167 :: u168 :: u169 :: u170 :: u171 :: u172 :: u173 :: u174 :: u175 :: u176 :: u177 :: u178 :: u179 :: u180 :: u181 :: u182 :: u183 :: u184 :: u185 :: u186 :: u187 :: u188 :: u189 :: u190 :: u191 :: u192 :: u193 :: u194 :: u195 :: u196 :: u197 :: u198 :: u199 :: u200 :: u201 :: u202 :: u203 :: u204 :: u205 :: u206 :: u207 :: u208 :: u209 :: u210 :: u211 :: u212 :: u213 :: u214 :: u215 :: u216 :: u217 :: u218 :: u219 :: u220 :: u221 :: u222 :: u223 :: u224 :: u225 :: u226 :: u227 :: u228 :: u229 :: u230 :: u231 :: u232 :: u233 :: u234 :: u235 :: u236 :: u237 :: u238 :: u239 :: u240 :: u241 :: u242 :: u243 :: u244 :: u245 :: u246 :: u247 :: u248 :: u249 :: u250 :: u251 :: u252 :: u253 :: u254 :: u255 :: u256 :: u257 :: u258 :: u259 :: u260 :: u261 :: u262 :: u263 :: u264 :: u265 :: undef :: []).toArray, defers := ds }
theorem stop_end {N : Nat} {a : Act} {j k : Nat} (h : a.tmps.getD 48 undef = .int .i64 j) (hk : j < k) (hN : k ≤ N) {c : Act} (hc : c.tmps.getD 48 undef = .int .i64 k) : N - (intOf (c.tmps.getD 48 undef)).toNat < N - (intOf (a.tmps.getD 48 undef)).toNat := by
  rw [h, hc]; simp [intOf]; omega
set_option maxRecDepth 1000000 in
set_option maxHeartbeats 16000000 in
theorem oacts_walk (W : World) (most : Int) (A : Option Addr) (N C : Nat) (xs : List O6) (hx : Rd W 6 (.slice A N C) (xs.flatMap o6)) (hN : N = xs.length) (lo hi stop : Int) :
    Calls Try.prog 6 #[.int .i64 most, .slice A N C, .agg #[.int .i64 lo, .int .i64 hi, .int .i64 stop]] W fun e w' => e = .returned (.bool true) ∧ Fr (fun _ => False) W w' := by
  have HN := Lib.hid hN
  have HX := Lib.hid hx
  clear hN hx
  refine (callsIn_wide (n := 9)).1 ?_
  refine callsIn_of_wp_marks Try.func6 rfl trivial ?_ rfl
  simp only [Try.ntmps6, List.size_toArray, List.length_cons, List.length_nil, Nat.reduceAdd, Nat.reduceSub, Array.replicate_succ, Array.replicate_zero, List.push_toArray, List.append_toArray, List.nil_append, List.cons_append]
  refine wpIn_wide.2 ?_
  go_wp2_with fail
  obtain ⟨W0, hW⟩ : ∃ W0, W0 = (W.alloc (.cells #[.int .i64 lo, .int .i64 hi, .int .i64 stop] 48)).alloc (.cells #[.bool false] 4) := ⟨_, rfl⟩
  rw [← hW]
  have hfr : Fr (fun _ => False) W W0 := by rw [hW]; exact ((Fr.refl _ _).alloc _).alloc _
  have o0 : ob W0 W.heap.size = some (.cells #[.int .i64 lo, .int .i64 hi, .int .i64 stop] 48 (0, 0)) := by rw [hW, ob_alloc _ _ _ (by simp <;> omega), ob_newAt _ _ _ (by first | omega | (simp <;> omega))]
  have o1 : ob W0 (W.heap.size + 1) = some (.cells #[.bool false] 4 (0, 0)) := by rw [hW, ob_newAt _ _ _ (by first | omega | (simp <;> omega))]
  obtain ⟨ba, hba⟩ : ∃ k, W.heap.size = k := ⟨_, rfl⟩
  have HBA := Lib.hid hba
  rw [hba] at o0 o1 ⊢
  have hl0 : LocO W0 W ba lo hi stop [] := ⟨o0, o1, by simp, fun D hD => by cases hD⟩
  clear hW hba o0 o1
  by_cases hout : most < 0 ∨ 4096 < most
  · refine (obnew_no most hout W0).mono ?_
    rintro e w1 ⟨rfl, rfl⟩
    go_wp2_with fail
    refine (ornew_no most hout w1).mono ?_
    rintro e w2 ⟨rfl, rfl⟩
    clear hout
    go_wp2_with fail
    refine (lives_any _).mono ?_
    rintro e w9 ⟨rfl, hf9⟩
    have hl9 := (hl0).fr hf9
    have o9 := hl9.2.1
    have c9 := cell_of_ob o9 0
    have z9 := frozen_of_ob o9 0
    have s9 := ob_lt o9
    have hfin : Fr (fun _ => False) W (w9.setCell ⟨ba + 1, 0, none⟩ (.bool true)) := ((hfr).step hf9 (fun _ h => h.elim)).setCell _ _ (.inr (by have := HBA.out; simp; omega))
    have hob : ob (w9.setCell ⟨ba + 1, 0, none⟩ (.bool true)) (ba + 1) = some (.cells #[.bool true] 4 (0, 0)) := ob_setCell_same o9 _
    have HL9 := Lib.hid hl9
    have HO9 := Lib.hid o9
    have hba9 : ba ≤ w9.heap.size := by omega
    clear hf9 o9 hl9 
    go_wp2_with fail
    change LeavesInM _ _ _ _ _ _ (marks []) _ _
    refine leaves_marks (B := ba) [] _ HL9.out.2.2.1 (fun D hD => ?_) (by simpa using hba9) (fun w' hw' hc => ?_)
    · obtain ⟨h1, h2⟩ := HL9.out.2.2.2 D hD
      refine ⟨(ob_setCell _ _ _ _ (fun e => ?_)).trans h1, by have := HBA.out; omega⟩
      have h3 := HO9.out
      rw [show ba + 1 = D from e.symm] at h3
      rw [h1] at h3
      cases h3
    have hc2 := cell_of_ob (hc _ _ _ _ hob) 0
    refine ⟨.bool true, ?_, rfl, ⟨hw'.os.trans hfin.os, hw'.tape.trans hfin.tape, hw'.output.trans hfin.output, Nat.le_trans hfin.size hw'.size, fun k hk hn => (hw'.block k (by have := HBA.out; omega)).trans (hfin.block k hk hn)⟩⟩
    simp at hc2
    simp [results, Try.f6, go_sem, hc2]
  have hm0 : 0 ≤ most := by omega
  have hm1 : most ≤ 4096 := by omega
  clear hout
  refine (newH (W := W) (w := W0) (P := fun k => k = ba ∨ k = ba + 1 ∨ k ∈ ([] : List Nat)) most hm0 hm1 hfr hl0.lt).mono ?_
  rintro e w1 ⟨b, rfl, hH1, hf1⟩
  have hl1 := hl0.fr hf1
  go_wp2_with fail
  refine (ornew_any most hm0 hm1 w1).mono ?_
  rintro e w2 ⟨rb, rfl, hR2, hf2⟩
  have hl2 := hl1.fr hf2
  have h0 : Held (fun k => k = ba ∨ k = ba + 1 ∨ k ∈ ([] : List Nat)) W w2 (TwoO b most [] rb []) := by
    have h3 := hH1.swap.drop
    exact (h3.add (ObX.steady _ _ _) (ORX.steady _ _ _) hf2 hR2 (fun k hk => ⟨hk, fun hp => by have := hl1.lt k hp; omega⟩)).swap
  have hf02 := (hfr.step hf1 (fun _ h => h.elim)).step hf2 (fun _ h => h.elim)
  clear hH1 hR2 hf1 hf2 hl0 hl1 hfr
  by_cases hbig : 120 < N
  · go_wp2_with fail
    refine (lives_any w2).mono ?_
    rintro e w9 ⟨rfl, hf9⟩
    have hl9 := (hl2).fr hf9
    have o9 := hl9.2.1
    have c9 := cell_of_ob o9 0
    have z9 := frozen_of_ob o9 0
    have s9 := ob_lt o9
    have hfin : Fr (fun _ => False) W (w9.setCell ⟨ba + 1, 0, none⟩ (.bool true)) := ((hf02).step hf9 (fun _ h => h.elim)).setCell _ _ (.inr (by have := HBA.out; simp; omega))
    have hob : ob (w9.setCell ⟨ba + 1, 0, none⟩ (.bool true)) (ba + 1) = some (.cells #[.bool true] 4 (0, 0)) := ob_setCell_same o9 _
    have HL9 := Lib.hid hl9
    have HO9 := Lib.hid o9
    have hba9 : ba ≤ w9.heap.size := by omega
    clear hf9 o9 hl9 h0
    go_wp2_with fail
    change LeavesInM _ _ _ _ _ _ (marks []) _ _
    refine leaves_marks (B := ba) [] _ HL9.out.2.2.1 (fun D hD => ?_) (by simpa using hba9) (fun w' hw' hc => ?_)
    · obtain ⟨h1, h2⟩ := HL9.out.2.2.2 D hD
      refine ⟨(ob_setCell _ _ _ _ (fun e => ?_)).trans h1, by have := HBA.out; omega⟩
      have h3 := HO9.out
      rw [show ba + 1 = D from e.symm] at h3
      rw [h1] at h3
      cases h3
    have hc2 := cell_of_ob (hc _ _ _ _ hob) 0
    refine ⟨.bool true, ?_, rfl, ⟨hw'.os.trans hfin.os, hw'.tape.trans hfin.tape, hw'.output.trans hfin.output, Nat.le_trans hfin.size hw'.size, fun k hk hn => (hw'.block k (by have := HBA.out; omega)).trans (hfin.block k hk hn)⟩⟩
    simp at hc2
    simp [results, Try.f6, go_sem, hc2]
  have hN3 : N ≤ 120 := by omega
  have hbN : ¬ (120 : Int) < N := by omega
  clear hbig
  have HR := Lib.hid (show ∀ w2, Fr (fun _ => False) W w2 → Rd w2 6 (.slice A N C) (xs.flatMap o6) from fun w2 hf => HX.out.of hf (fun _ h => h.elim))
  clear hf02
  go_wp2_with fail

  refine wp_loop (OAI W A N C ba b rb most lo hi stop) (fun a' _ => N - (intOf (a'.tmps.getD 48 undef)).toNat) ?atStart ?round
  case atStart =>
    unfold OAI
    (repeat apply Exists.intro)
    refine ⟨?_, rfl⟩
    exact ⟨0, [], [], [], Nat.zero_le _, rfl, rfl, h0, Lib.hid ⟨PO.start, by simp⟩, Lib.hid hl2⟩
  case round => as_aux_lemma =>
    intro a0 wr hinv
    clear h0 hl2
    unfold OAI at hinv
    obtain ⟨u10, hinv⟩ := hinv
    obtain ⟨u11, hinv⟩ := hinv
    obtain ⟨u12, hinv⟩ := hinv
    obtain ⟨u13, hinv⟩ := hinv
    obtain ⟨u14, hinv⟩ := hinv
    obtain ⟨u15, hinv⟩ := hinv
    obtain ⟨u16, hinv⟩ := hinv
    obtain ⟨u17, hinv⟩ := hinv
    obtain ⟨u18, hinv⟩ := hinv
    obtain ⟨u19, hinv⟩ := hinv
    obtain ⟨u20, hinv⟩ := hinv
    obtain ⟨u21, hinv⟩ := hinv
    obtain ⟨u22, hinv⟩ := hinv
    obtain ⟨u23, hinv⟩ := hinv
    obtain ⟨u24, hinv⟩ := hinv
    obtain ⟨u25, hinv⟩ := hinv
    obtain ⟨u26, hinv⟩ := hinv
    obtain ⟨u27, hinv⟩ := hinv
    obtain ⟨u28, hinv⟩ := hinv
    obtain ⟨u48, hinv⟩ := hinv
    obtain ⟨u49, hinv⟩ := hinv
    obtain ⟨u50, hinv⟩ := hinv
    obtain ⟨u51, hinv⟩ := hinv
    obtain ⟨u52, hinv⟩ := hinv
    obtain ⟨u53, hinv⟩ := hinv
    obtain ⟨u54, hinv⟩ := hinv
    obtain ⟨u55, hinv⟩ := hinv
    obtain ⟨u56, hinv⟩ := hinv
    obtain ⟨u57, hinv⟩ := hinv
    obtain ⟨u58, hinv⟩ := hinv
    obtain ⟨u59, hinv⟩ := hinv
    obtain ⟨u60, hinv⟩ := hinv
    obtain ⟨u61, hinv⟩ := hinv
    obtain ⟨u62, hinv⟩ := hinv
    obtain ⟨u63, hinv⟩ := hinv
    obtain ⟨u64, hinv⟩ := hinv
    obtain ⟨u65, hinv⟩ := hinv
    obtain ⟨u66, hinv⟩ := hinv
    obtain ⟨u67, hinv⟩ := hinv
    obtain ⟨u68, hinv⟩ := hinv
    obtain ⟨u69, hinv⟩ := hinv
    obtain ⟨u70, hinv⟩ := hinv
    obtain ⟨u71, hinv⟩ := hinv
    obtain ⟨u72, hinv⟩ := hinv
    obtain ⟨u73, hinv⟩ := hinv
    obtain ⟨u74, hinv⟩ := hinv
    obtain ⟨u75, hinv⟩ := hinv
    obtain ⟨u76, hinv⟩ := hinv
    obtain ⟨u77, hinv⟩ := hinv
    obtain ⟨u78, hinv⟩ := hinv
    obtain ⟨u79, hinv⟩ := hinv
    obtain ⟨u80, hinv⟩ := hinv
    obtain ⟨u81, hinv⟩ := hinv
    obtain ⟨u82, hinv⟩ := hinv
    obtain ⟨u83, hinv⟩ := hinv
    obtain ⟨u84, hinv⟩ := hinv
    obtain ⟨u85, hinv⟩ := hinv
    obtain ⟨u86, hinv⟩ := hinv
    obtain ⟨u87, hinv⟩ := hinv
    obtain ⟨u88, hinv⟩ := hinv
    obtain ⟨u89, hinv⟩ := hinv
    obtain ⟨u90, hinv⟩ := hinv
    obtain ⟨u91, hinv⟩ := hinv
    obtain ⟨u92, hinv⟩ := hinv
    obtain ⟨u93, hinv⟩ := hinv
    obtain ⟨u94, hinv⟩ := hinv
    obtain ⟨u95, hinv⟩ := hinv
    obtain ⟨u96, hinv⟩ := hinv
    obtain ⟨u97, hinv⟩ := hinv
    obtain ⟨u98, hinv⟩ := hinv
    obtain ⟨u99, hinv⟩ := hinv
    obtain ⟨u100, hinv⟩ := hinv
    obtain ⟨u101, hinv⟩ := hinv
    obtain ⟨u102, hinv⟩ := hinv
    obtain ⟨u103, hinv⟩ := hinv
    obtain ⟨u104, hinv⟩ := hinv
    obtain ⟨u105, hinv⟩ := hinv
    obtain ⟨u106, hinv⟩ := hinv
    obtain ⟨u107, hinv⟩ := hinv
    obtain ⟨u108, hinv⟩ := hinv
    obtain ⟨u109, hinv⟩ := hinv
    obtain ⟨u110, hinv⟩ := hinv
    obtain ⟨u111, hinv⟩ := hinv
    obtain ⟨u112, hinv⟩ := hinv
    obtain ⟨u113, hinv⟩ := hinv
    obtain ⟨u114, hinv⟩ := hinv
    obtain ⟨u115, hinv⟩ := hinv
    obtain ⟨u116, hinv⟩ := hinv
    obtain ⟨u117, hinv⟩ := hinv
    obtain ⟨u118, hinv⟩ := hinv
    obtain ⟨u119, hinv⟩ := hinv
    obtain ⟨u120, hinv⟩ := hinv
    obtain ⟨u121, hinv⟩ := hinv
    obtain ⟨u122, hinv⟩ := hinv
    obtain ⟨u123, hinv⟩ := hinv
    obtain ⟨u124, hinv⟩ := hinv
    obtain ⟨u125, hinv⟩ := hinv
    obtain ⟨u126, hinv⟩ := hinv
    obtain ⟨u127, hinv⟩ := hinv
    obtain ⟨u128, hinv⟩ := hinv
    obtain ⟨u129, hinv⟩ := hinv
    obtain ⟨u130, hinv⟩ := hinv
    obtain ⟨u131, hinv⟩ := hinv
    obtain ⟨u132, hinv⟩ := hinv
    obtain ⟨u133, hinv⟩ := hinv
    obtain ⟨u134, hinv⟩ := hinv
    obtain ⟨u135, hinv⟩ := hinv
    obtain ⟨u136, hinv⟩ := hinv
    obtain ⟨u137, hinv⟩ := hinv
    obtain ⟨u138, hinv⟩ := hinv
    obtain ⟨u139, hinv⟩ := hinv
    obtain ⟨u140, hinv⟩ := hinv
    obtain ⟨u141, hinv⟩ := hinv
    obtain ⟨u142, hinv⟩ := hinv
    obtain ⟨u143, hinv⟩ := hinv
    obtain ⟨u144, hinv⟩ := hinv
    obtain ⟨u145, hinv⟩ := hinv
    obtain ⟨u146, hinv⟩ := hinv
    obtain ⟨u147, hinv⟩ := hinv
    obtain ⟨u148, hinv⟩ := hinv
    obtain ⟨u149, hinv⟩ := hinv
    obtain ⟨u150, hinv⟩ := hinv
    obtain ⟨u151, hinv⟩ := hinv
    obtain ⟨u152, hinv⟩ := hinv
    obtain ⟨u153, hinv⟩ := hinv
    obtain ⟨u154, hinv⟩ := hinv
    obtain ⟨u155, hinv⟩ := hinv
    obtain ⟨u156, hinv⟩ := hinv
    obtain ⟨u157, hinv⟩ := hinv
    obtain ⟨u158, hinv⟩ := hinv
    obtain ⟨u159, hinv⟩ := hinv
    obtain ⟨u160, hinv⟩ := hinv
    obtain ⟨u161, hinv⟩ := hinv
    obtain ⟨u162, hinv⟩ := hinv
    obtain ⟨u163, hinv⟩ := hinv
    obtain ⟨u164, hinv⟩ := hinv
    obtain ⟨u165, hinv⟩ := hinv
    obtain ⟨u166, hinv⟩ := hinv
    obtain ⟨u167, hinv⟩ := hinv
    obtain ⟨u168, hinv⟩ := hinv
    obtain ⟨u169, hinv⟩ := hinv
    obtain ⟨u170, hinv⟩ := hinv
    obtain ⟨u171, hinv⟩ := hinv
    obtain ⟨u172, hinv⟩ := hinv
    obtain ⟨u173, hinv⟩ := hinv
    obtain ⟨u174, hinv⟩ := hinv
    obtain ⟨u175, hinv⟩ := hinv
    obtain ⟨u176, hinv⟩ := hinv
    obtain ⟨u177, hinv⟩ := hinv
    obtain ⟨u178, hinv⟩ := hinv
    obtain ⟨u179, hinv⟩ := hinv
    obtain ⟨u180, hinv⟩ := hinv
    obtain ⟨u181, hinv⟩ := hinv
    obtain ⟨u182, hinv⟩ := hinv
    obtain ⟨u183, hinv⟩ := hinv
    obtain ⟨u184, hinv⟩ := hinv
    obtain ⟨u185, hinv⟩ := hinv
    obtain ⟨u186, hinv⟩ := hinv
    obtain ⟨u187, hinv⟩ := hinv
    obtain ⟨u188, hinv⟩ := hinv
    obtain ⟨u189, hinv⟩ := hinv
    obtain ⟨u190, hinv⟩ := hinv
    obtain ⟨u191, hinv⟩ := hinv
    obtain ⟨u192, hinv⟩ := hinv
    obtain ⟨u193, hinv⟩ := hinv
    obtain ⟨u194, hinv⟩ := hinv
    obtain ⟨u195, hinv⟩ := hinv
    obtain ⟨u196, hinv⟩ := hinv
    obtain ⟨u197, hinv⟩ := hinv
    obtain ⟨u198, hinv⟩ := hinv
    obtain ⟨u199, hinv⟩ := hinv
    obtain ⟨u200, hinv⟩ := hinv
    obtain ⟨u201, hinv⟩ := hinv
    obtain ⟨u202, hinv⟩ := hinv
    obtain ⟨u203, hinv⟩ := hinv
    obtain ⟨u204, hinv⟩ := hinv
    obtain ⟨u205, hinv⟩ := hinv
    obtain ⟨u206, hinv⟩ := hinv
    obtain ⟨u207, hinv⟩ := hinv
    obtain ⟨u208, hinv⟩ := hinv
    obtain ⟨u209, hinv⟩ := hinv
    obtain ⟨u210, hinv⟩ := hinv
    obtain ⟨u211, hinv⟩ := hinv
    obtain ⟨u212, hinv⟩ := hinv
    obtain ⟨u213, hinv⟩ := hinv
    obtain ⟨u214, hinv⟩ := hinv
    obtain ⟨u215, hinv⟩ := hinv
    obtain ⟨u216, hinv⟩ := hinv
    obtain ⟨u217, hinv⟩ := hinv
    obtain ⟨u218, hinv⟩ := hinv
    obtain ⟨u219, hinv⟩ := hinv
    obtain ⟨u220, hinv⟩ := hinv
    obtain ⟨u221, hinv⟩ := hinv
    obtain ⟨u222, hinv⟩ := hinv
    obtain ⟨u223, hinv⟩ := hinv
    obtain ⟨u224, hinv⟩ := hinv
    obtain ⟨u225, hinv⟩ := hinv
    obtain ⟨u226, hinv⟩ := hinv
    obtain ⟨u227, hinv⟩ := hinv
    obtain ⟨u228, hinv⟩ := hinv
    obtain ⟨u229, hinv⟩ := hinv
    obtain ⟨u230, hinv⟩ := hinv
    obtain ⟨u231, hinv⟩ := hinv
    obtain ⟨u232, hinv⟩ := hinv
    obtain ⟨u233, hinv⟩ := hinv
    obtain ⟨u234, hinv⟩ := hinv
    obtain ⟨u235, hinv⟩ := hinv
    obtain ⟨u236, hinv⟩ := hinv
    obtain ⟨u237, hinv⟩ := hinv
    obtain ⟨u238, hinv⟩ := hinv
    obtain ⟨u239, hinv⟩ := hinv
    obtain ⟨u240, hinv⟩ := hinv
    obtain ⟨u241, hinv⟩ := hinv
    obtain ⟨u242, hinv⟩ := hinv
    obtain ⟨u243, hinv⟩ := hinv
    obtain ⟨u244, hinv⟩ := hinv
    obtain ⟨u245, hinv⟩ := hinv
    obtain ⟨u246, hinv⟩ := hinv
    obtain ⟨u247, hinv⟩ := hinv
    obtain ⟨u248, hinv⟩ := hinv
    obtain ⟨u249, hinv⟩ := hinv
    obtain ⟨u250, hinv⟩ := hinv
    obtain ⟨u251, hinv⟩ := hinv
    obtain ⟨u252, hinv⟩ := hinv
    obtain ⟨u253, hinv⟩ := hinv
    obtain ⟨u254, hinv⟩ := hinv
    obtain ⟨u255, hinv⟩ := hinv
    obtain ⟨u256, hinv⟩ := hinv
    obtain ⟨u257, hinv⟩ := hinv
    obtain ⟨u258, hinv⟩ := hinv
    obtain ⟨u259, hinv⟩ := hinv
    obtain ⟨u260, hinv⟩ := hinv
    obtain ⟨u261, hinv⟩ := hinv
    obtain ⟨u262, hinv⟩ := hinv
    obtain ⟨u263, hinv⟩ := hinv
    obtain ⟨u264, hinv⟩ := hinv
    obtain ⟨u265, hinv⟩ := hinv
    obtain ⟨ds, ⟨j, Ds, l, R, hjN, hu48, hds, hH, HPO, HLO⟩, ha⟩ := hinv
    subst ha
    subst hu48
    subst hds
    dsimp only
    try simp only [List.getD_cons_succ, List.getD_cons_zero]
    by_cases hlt : j < N
    · skip
      obtain ⟨a, ha⟩ : ∃ a, xs[j]? = some a := ⟨_, List.getElem?_eq_getElem (by have := HN.out; omega)⟩
      obtain ⟨g, off, n', cap', heq, hgl, hcs⟩ := Rd.at o6_len (by decide) (HR.out wr hH.hf) ha
      cases heq
      obtain ⟨kd, id, va, pf, ps, pd⟩ := a
      have c0 : wr.cell? ⟨g, off + j * 6, none⟩ = some (.int .i64 kd) := hcs 0 _ rfl
      have c1 : wr.cell? ⟨g, off + j * 6 + 1, none⟩ = some (.int .i64 id) := hcs 1 _ rfl
      have c2 : wr.cell? ⟨g, off + j * 6 + 2, none⟩ = some (.int .i64 va) := hcs 2 _ rfl
      have c3 : wr.cell? ⟨g, off + j * 6 + 3, none⟩ = some (.int .i64 pf) := hcs 3 _ rfl
      have c4 : wr.cell? ⟨g, off + j * 6 + 4, none⟩ = some (.int .i64 ps) := hcs 4 _ rfl
      have c5 : wr.cell? ⟨g, off + j * 6 + 5, none⟩ = some (.bool pd) := hcs 5 _ rfl
      clear ha hcs
      obtain ⟨w2, hw2⟩ : ∃ w2, wr.alloc (.cells #[.int .i64 kd, .int .i64 id, .int .i64 va, .int .i64 pf, .int .i64 ps, .bool pd] 52) = w2 := ⟨_, rfl⟩
      obtain ⟨aa, haa⟩ : ∃ aa, wr.heap.size = aa := ⟨_, rfl⟩
      have oa : ob w2 aa = some (.cells #[.int .i64 kd, .int .i64 id, .int .i64 va, .int .i64 pf, .int .i64 ps, .bool pd] 52 (0, 0)) := by rw [← hw2, ← haa]; exact ob_new _ _
      have hf2 : Fr (fun _ => False) wr w2 := by rw [← hw2]; exact (Fr.refl _ wr).alloc _
      have HLO2 := Lib.hid (HLO.out.fr hf2)
      have hPlt : ∀ (v : World), LocO v W ba lo hi stop Ds → ∀ o, ob v aa = some o → ∀ k, ((k = ba ∨ k = ba + 1 ∨ k ∈ Ds) ∨ k = aa) → k < v.heap.size := fun v h1 o h2 k hk => by
        rcases hk with hk | rfl
        · exact h1.lt k hk
        · exact ob_lt h2
      have hH2 : Held (fun k => (k = ba ∨ k = ba + 1 ∨ k ∈ Ds) ∨ k = aa) W w2 (TwoO b most l rb R) := (hH.safe (fun k hk hn => by
        rcases hk with hk | rfl
        · exact (hn hk).elim
        · exact Nat.le_of_eq haa)).keep TwoO.steady hf2
      have hP2 := hPlt w2 HLO2.out _ oa
      have HPL := Lib.hid hPlt
      have HAA := Lib.hid (show ∀ D ∈ Ds, D < aa from fun D hD => by rw [← haa]; exact HLO.out.lt D (.inr (.inr hD)))
      have HBL := Lib.hid (show ba + 1 < aa by rw [← haa]; exact HLO.out.lt (ba + 1) (.inr (.inl rfl)))
      have HWA := Lib.hid (show W.heap.size ≤ aa by rw [← haa]; exact hH.hf.size)
      have d0 := cell_of_ob oa 0
      have d1 := cell_of_ob oa 1
      have d2 := cell_of_ob oa 2
      have d3 := cell_of_ob oa 3
      have d4 := cell_of_ob oa 4
      have d5 := cell_of_ob oa 5
      have HRL := Lib.hid (show R.length ≤ 120 by have := HPO.out.2; omega)
      clear hH hPlt
      go_upto_block 2 with fail
      clear hw2 haa hf2 c0 c1 c2 c3 c4 c5 hgl
      go_cut [11, 12, 13, 14, 15, 16, 17, 18, 19] from 49 to 265 (fun so _ _ _ _ _ _ _ _ wc => so = .bool true ∧ ∃ (l' : List (Int × Obt)) (R' : List (Option Obt)), Held (fun k => (k = ba ∨ k = ba + 1 ∨ k ∈ Ds) ∨ k = aa) W wc (TwoO b most l' rb R') ∧ ob wc aa = some (.cells #[.int .i64 kd, .int .i64 id, .int .i64 va, .int .i64 pf, .int .i64 ps, .bool pd] 52 (0, 0)) ∧ Hid (LocO wc W ba lo hi stop Ds) ∧ Hid (PO l' R' ∧ R'.length ≤ j + 1))
      case first => as_aux_lemma =>
        by_cases hk0 : kd = 0
        · subst hk0
          have hmk := makeH hH2 (ORX.steady _ _ _) hP2 (HPO.out.1.keys (by have := HRL.out; omega)) va
          go_wp2_with fail
          refine hmk.mono ?_
          rintro e w3 ⟨nid, er, l', rfl, hM, hH3, hkp⟩
          clear hmk
          obtain ⟨p1, p2, p3, p4⟩ := HPO.out.1.make hM
          have oa3 := hkp _ _ (.inr rfl) oa
          have hl3 := HLO2.out.of (fun k o hk ho => hkp k o (.inl hk) ho)
          have e2 := cell_of_ob oa3 2
          have hrm := yO hH3 (HPL.out _ hl3 _ oa3) (fun S hS => romake_any hS (by have := HRL.out; omega) va)
          rw [p1, p2] at hrm
          have HL3 := Lib.hid hl3
          have HP3 : Hid (PO l' (rmakeO most va R).2.2 ∧ (rmakeO most va R).2.2.length ≤ j + 1) := Lib.hid ⟨p3, by have := HPO.out.2; omega⟩
          clear hM p1 p2 p3 p4 hkp hl3 hH2 hH3 hP2 d0 d1 d2 d3 d4 d5
          go_wp2_with fail
          refine hrm.mono ?_
          rintro e w4 ⟨rfl, hH4, hkp⟩
          have oa4 := hkp _ _ (.inr rfl) oa3
          have HL4 := Lib.hid (HL3.out.of (fun k o hk ho => hkp k o (.inl hk) ho))
          clear hrm hkp
          go_wp2_with fail
          go_meet
          exact ⟨by simp, _, _, hH4, oa4, HL4, HP3⟩
        by_cases hk1 : kd = 1
        · subst hk1
          clear hk0
          have hmk := refH hH2 (ORX.steady _ _ _) hP2 id va (HPO.out.1.refs id)
          obtain ⟨p1, p2, p3, p4⟩ := HPO.out.1.ref id va
          obtain ⟨n1, hn1⟩ : ∃ n, (refR l id va).1 = n := ⟨_, rfl⟩
          obtain ⟨n2, hn2⟩ : ∃ n, (refR l id va).2.1 = n := ⟨_, rfl⟩
          rw [hn1] at p1 hmk
          rw [hn2] at p2 hmk
          have HP3 : Hid (PO (refR l id va).2.2 (rrefR R id va).2.2 ∧ (rrefR R id va).2.2.length ≤ j + 1) := Lib.hid ⟨p3, by have := HPO.out.2; omega⟩
          have HP1 := Lib.hid p1
          have HP2 := Lib.hid p2
          clear p1 p2 p3 p4 hn1 hn2
          go_wp2_with fail
          refine hmk.mono ?_
          rintro e w3 ⟨rfl, hH3, hkp⟩
          clear hmk
          have oa3 := hkp _ _ (.inr rfl) oa
          have hl3 := HLO2.out.of (fun k o hk ho => hkp k o (.inl hk) ho)
          have e1 := cell_of_ob oa3 1
          have e2 := cell_of_ob oa3 2
          have hrm := yO hH3 (HPL.out _ hl3 _ oa3) (fun S hS => roref_any hS (by have := HRL.out; omega) id va (HPO.out.1.refs' id))
          rw [HP1.out, HP2.out] at hrm
          have HL3 := Lib.hid hl3
          clear hkp hl3 hH2 hH3 hP2 d0 d1 d2 d3 d4 d5
          go_wp2_with fail
          refine hrm.mono ?_
          rintro e w4 ⟨rfl, hH4, hkp⟩
          have oa4 := hkp _ _ (.inr rfl) oa3
          have HL4 := Lib.hid (HL3.out.of (fun k o hk ho => hkp k o (.inl hk) ho))
          clear hrm hkp
          go_wp2_with fail
          go_meet
          exact ⟨by simp, _, _, hH4, oa4, HL4, HP3⟩
        by_cases hk2 : kd = 2
        · subst hk2
          clear hk0 hk1
          obtain ⟨p1, p2, p3⟩ := HPO.out.1.put id va (pf, ps, pd)
          obtain ⟨n1, hn1⟩ : ∃ n, (putR l id va (pf, ps, pd)).1 = n := ⟨_, rfl⟩
          rw [hn1] at p1
          have HPT := Lib.hid (show ∀ p, Calls Try.prog 12 #[.pointer (some ⟨b, 0, none⟩), .int .i64 id, .int .i64 va, .agg #[.int .i64 pf, .int .i64 ps, .bool pd]] (w2.drewN p) fun e w' => e = .returned (.int .i64 n1) ∧ Held (fun k => (k = ba ∨ k = ba + 1 ∨ k ∈ Ds) ∨ k = aa) W w' (TwoO b most (putR l id va (pf, ps, pd)).2 rb R) ∧ ∀ k o, ((k = ba ∨ k = ba + 1 ∨ k ∈ Ds) ∨ k = aa) → ob (w2.drewN p) k = some o → ob w' k = some o from fun p => by
            have := putH (hH2.keep TwoO.steady (fr_drewO w2 p)) (ORX.steady _ _ _) hP2 id va (pf, ps, pd)
            rw [hn1] at this
            exact this)
          have HP1 := Lib.hid p1
          have HP3 : Hid (PO (putR l id va (pf, ps, pd)).2 (rputR R id va (pf, ps, pd)).2 ∧ (rputR R id va (pf, ps, pd)).2.length ≤ j + 1) := Lib.hid ⟨p2, by have := HPO.out.2; omega⟩
          have HYT := Lib.hid (show ∀ v, Held (fun k => (k = ba ∨ k = ba + 1 ∨ k ∈ Ds) ∨ k = aa) W v (TwoO b most (putR l id va (pf, ps, pd)).2 rb R) → (∀ k, ((k = ba ∨ k = ba + 1 ∨ k ∈ Ds) ∨ k = aa) → k < v.heap.size) → Calls Try.prog 23 #[.pointer (some ⟨rb, 0, none⟩), .int .i64 id, .int .i64 va, .agg #[.int .i64 pf, .int .i64 ps, .bool pd]] v fun e w' => e = .returned (.int .i64 n1) ∧ Held (fun k => (k = ba ∨ k = ba + 1 ∨ k ∈ Ds) ∨ k = aa) W w' (TwoO b most (putR l id va (pf, ps, pd)).2 rb (rputR R id va (pf, ps, pd)).2) ∧ ∀ k o, ((k = ba ∨ k = ba + 1 ∨ k ∈ Ds) ∨ k = aa) → ob v k = some o → ob w' k = some o from fun v hv hp => by
            have := yO hv hp (fun S hS => roput_any hS (HPO.out.1.few (by have := HRL.out; omega)) id va (pf, ps, pd))
            rw [HP1.out] at this
            exact this)
          have hS0 : w2.cell? ⟨aa, 1, none⟩ = some (.int .i64 id) ∧ w2.cell? ⟨aa, 2, none⟩ = some (.int .i64 va) ∧ w2.cell? ⟨aa, 3, none⟩ = some (.int .i64 pf) ∧ w2.cell? ⟨aa, 4, none⟩ = some (.int .i64 ps) ∧ w2.cell? ⟨aa, 5, none⟩ = some (.bool pd) := ⟨d1, d2, d3, d4, d5⟩
          have HOA := Lib.hid (show ∀ p, ob (w2.drewN p) aa = some (.cells #[.int .i64 2, .int .i64 id, .int .i64 va, .int .i64 pf, .int .i64 ps, .bool pd] 52 (0, 0)) from fun p => oa)
          clear p1 p2 p3 hn1 hP2
          go_wp2_with fail
          go_region_held3 (fun w' => w'.cell? ⟨aa, 1, none⟩ = some (.int .i64 id) ∧ w'.cell? ⟨aa, 2, none⟩ = some (.int .i64 va) ∧ w'.cell? ⟨aa, 3, none⟩ = some (.int .i64 pf) ∧ w'.cell? ⟨aa, 4, none⟩ = some (.int .i64 ps) ∧ w'.cell? ⟨aa, 5, none⟩ = some (.bool pd)) (first | exact hS0 | assumption | go_keep)
            (first
              | (go_at_call 12; refine (HPT.out _).mono ?_; rintro e w3 ⟨rfl, hH3, hkp⟩; have oa3 := hkp _ _ (.inr rfl) (HOA.out _); have HL3 := Lib.hid (LocO.of (w1 := w3) (HLO2.out.fr (fr_drewO w2 _)) (fun k o hk ho => hkp k o (.inl hk) ho)); have hS3 := And.intro (cell_of_ob oa3 1) (And.intro (cell_of_ob oa3 2) (And.intro (cell_of_ob oa3 3) (And.intro (cell_of_ob oa3 4) (cell_of_ob oa3 5)))); clear hkp)
              | (go_at_call 23; refine (HYT.out _ hH3 (HPL.out _ HL3.out _ oa3)).mono ?_; rintro e w4 ⟨rfl, hH4, hkp⟩; have oa4 := hkp _ _ (.inr rfl) oa3; have HL4 := Lib.hid (HL3.out.of (w1 := w4) (fun k o hk ho => hkp k o (.inl hk) ho)); have hS4 := And.intro (cell_of_ob oa4 1) (And.intro (cell_of_ob oa4 2) (And.intro (cell_of_ob oa4 3) (And.intro (cell_of_ob oa4 4) (cell_of_ob oa4 5)))); clear hkp))
          all_goals (
            clear hH2 hH3 oa3 d0 d1 d2 d3 d4 d5 hS0
            go_wp2_with fail
            go_meet
            exact ⟨by simp, _, _, hH4, oa4, HL4, HP3⟩)
        by_cases hk3 : kd = 3
        · subst hk3
          clear hk0 hk1 hk2
          obtain ⟨p1, p2, p3⟩ := HPO.out.1.drop id va
          obtain ⟨n1, hn1⟩ : ∃ n, (dropR l id va).1 = n := ⟨_, rfl⟩
          rw [hn1] at p1
          have HPT := Lib.hid (show ∀ p, Calls Try.prog 16 #[.pointer (some ⟨b, 0, none⟩), .int .i64 id, .int .i64 va] (w2.drewN p) fun e w' => e = .returned (.bool n1) ∧ Held (fun k => (k = ba ∨ k = ba + 1 ∨ k ∈ Ds) ∨ k = aa) W w' (TwoO b most (dropR l id va).2 rb R) ∧ ∀ k o, ((k = ba ∨ k = ba + 1 ∨ k ∈ Ds) ∨ k = aa) → ob (w2.drewN p) k = some o → ob w' k = some o from fun p => by
            have := dropH (hH2.keep TwoO.steady (fr_drewO w2 p)) (ORX.steady _ _ _) hP2 id va
            rw [hn1] at this
            exact this)
          have HP1 := Lib.hid p1
          have HP3 : Hid (PO (dropR l id va).2 (rdropR R id va).2 ∧ (rdropR R id va).2.length ≤ j + 1) := Lib.hid ⟨p2, by have := HPO.out.2; omega⟩
          have HYT := Lib.hid (show ∀ v, Held (fun k => (k = ba ∨ k = ba + 1 ∨ k ∈ Ds) ∨ k = aa) W v (TwoO b most (dropR l id va).2 rb R) → (∀ k, ((k = ba ∨ k = ba + 1 ∨ k ∈ Ds) ∨ k = aa) → k < v.heap.size) → Calls Try.prog 24 #[.pointer (some ⟨rb, 0, none⟩), .int .i64 id, .int .i64 va] v fun e w' => e = .returned (.bool n1) ∧ Held (fun k => (k = ba ∨ k = ba + 1 ∨ k ∈ Ds) ∨ k = aa) W w' (TwoO b most (dropR l id va).2 rb (rdropR R id va).2) ∧ ∀ k o, ((k = ba ∨ k = ba + 1 ∨ k ∈ Ds) ∨ k = aa) → ob v k = some o → ob w' k = some o from fun v hv hp => by
            have := yO hv hp (fun S hS => rodrop_any hS (HPO.out.1.few (by have := HRL.out; omega)) id va)
            rw [HP1.out] at this
            exact this)
          have hS0 : w2.cell? ⟨aa, 1, none⟩ = some (.int .i64 id) ∧ w2.cell? ⟨aa, 2, none⟩ = some (.int .i64 va) := ⟨d1, d2⟩
          have HOA := Lib.hid (show ∀ p, ob (w2.drewN p) aa = some (.cells #[.int .i64 3, .int .i64 id, .int .i64 va, .int .i64 pf, .int .i64 ps, .bool pd] 52 (0, 0)) from fun p => oa)
          clear p1 p2 p3 hn1 hP2
          go_wp2_with fail
          go_region_held3 (fun w' => w'.cell? ⟨aa, 1, none⟩ = some (.int .i64 id) ∧ w'.cell? ⟨aa, 2, none⟩ = some (.int .i64 va)) (first | exact hS0 | assumption | go_keep)
            (first
              | (go_at_call 16; refine (HPT.out _).mono ?_; rintro e w3 ⟨rfl, hH3, hkp⟩; have oa3 := hkp _ _ (.inr rfl) (HOA.out _); have HL3 := Lib.hid (LocO.of (w1 := w3) (HLO2.out.fr (fr_drewO w2 _)) (fun k o hk ho => hkp k o (.inl hk) ho)); have hS3 := And.intro (cell_of_ob oa3 1) (cell_of_ob oa3 2); clear hkp)
              | (go_at_call 24; refine (HYT.out _ hH3 (HPL.out _ HL3.out _ oa3)).mono ?_; rintro e w4 ⟨rfl, hH4, hkp⟩; have oa4 := hkp _ _ (.inr rfl) oa3; have HL4 := Lib.hid (HL3.out.of (w1 := w4) (fun k o hk ho => hkp k o (.inl hk) ho)); have hS4 := And.intro (cell_of_ob oa4 1) (cell_of_ob oa4 2); clear hkp))
          all_goals (
            clear hH2 hH3 oa3 d0 d1 d2 d3 d4 d5 hS0
            go_wp2_with fail
            go_meet
            exact ⟨by simp, _, _, hH4, oa4, HL4, HP3⟩)
        · have HP3 : Hid (PO l R ∧ R.length ≤ j + 1) := Lib.hid ⟨HPO.out.1, by have := HPO.out.2; omega⟩
          go_wp2_with fail
          go_meet
          exact ⟨rfl, _, _, hH2, oa, HLO2, HP3⟩
      case rest => as_aux_lemma =>
        obtain ⟨rfl, l', R', hHc, oac, HLc, HPc⟩ := hcut
        clear hH2 oa d0 d1 d2 d3 d4 d5 hP2 HPO HLO HLO2
        have d1 := cell_of_ob oac 1
        have d2 := cell_of_ob oac 2
        obtain ⟨S1, hX1⟩ := hHc.left
        have HRL2 := Lib.hid (show R'.length ≤ 121 by have := HPc.out.2; omega)
        have hgx := get_any hX1 id va
        obtain ⟨⟨qf, qs, qd⟩, hq⟩ : ∃ q, (getR' l' id va).getD (0, 0, false) = q := ⟨_, rfl⟩
        obtain ⟨ok, hok⟩ : ∃ ok, (getR' l' id va).isSome = ok := ⟨_, rfl⟩
        rw [hq, hok] at hgx
        have HGY := Lib.hid (show ∀ v, Fr (fun _ => False) wc v → Calls Try.prog 25 #[.pointer (some ⟨rb, 0, none⟩), .int .i64 id, .int .i64 va] v fun e w' => e = .returned (.tuple #[.agg #[.int .i64 qf, .int .i64 qs, .bool qd], .bool ok]) ∧ Fr (fun _ => False) v w' from fun v hv => by
          obtain ⟨S2, hY1⟩ := (hHc.keep TwoO.steady hv).right
          have := roget_any hY1 (HPc.out.1.few (by have := HRL2.out; omega)) id va
          rw [HPc.out.1.get, hq, hok] at this
          exact this)
        clear hq hok hX1 S1
        change Calls _ _ _ _ (fun e w' => e = .returned (.tuple #[.agg #[.int .i64 qf, .int .i64 qs, .bool qd], .bool ok]) ∧ Fr (fun _ => False) wc w') at hgx
        go_wp2_with fail
        refine hgx.mono ?_
        rintro e w3 ⟨rfl, hf3⟩
        clear hgx
        have o3 := hf3.keep (fun h => h) oac
        have g1 := cell_of_ob o3 1
        have g2 := cell_of_ob o3 2
        have hf3a := hf3.alloc (.cells #[.int .i64 qf, .int .i64 qs, .bool qd] 34)
        have hgy := HGY.out _ hf3a
        have s3 : aa < w3.heap.size := ob_lt o3
        clear d1 d2
        go_wp2_with fail
        refine hgy.mono ?_
        rintro e w5 ⟨rfl, hf5⟩
        clear hgy HGY
        go_upto_region 25 with fail
        obtain ⟨w6, hw6⟩ : ∃ w6, w5.alloc (.cells #[.int .i64 qf, .int .i64 qs, .bool qd] 57) = w6 := ⟨_, rfl⟩
        obtain ⟨z3, hz3⟩ : ∃ z, w3.heap.size = z := ⟨_, rfl⟩
        obtain ⟨z5, hz5⟩ : ∃ z, w5.heap.size = z := ⟨_, rfl⟩
        have hf6 : Fr (fun _ => False) w5 w6 := by rw [← hw6]; exact (Fr.refl _ _).alloc _
        have hfc : Fr (fun _ => False) wc w6 := (hf3a.step hf5 (fun _ h => h.elim)).step hf6 (fun _ h => h.elim)
        have q3 : ob w6 z3 = some (.cells #[.int .i64 qf, .int .i64 qs, .bool qd] 34 (0, 0)) := by rw [← hz3]; exact hf6.keep (fun h => h) (hf5.keep (fun h => h) (ob_new _ _))
        have q5 : ob w6 z5 = some (.cells #[.int .i64 qf, .int .i64 qs, .bool qd] 57 (0, 0)) := by rw [← hz5, ← hw6]; exact ob_new _ _
        have o6 := hfc.keep (fun h => h) oac
        have hH6 := hHc.keep TwoO.steady hfc
        have HL6 := Lib.hid (HLc.out.fr hfc)
        have HOA := Lib.hid o6
        have HQ3 := Lib.hid q3
        have HQ5 := Lib.hid q5
        have HS := Lib.hid (show ∀ v, Fr (fun _ => False) w6 v → v.cell? ⟨aa, 1, none⟩ = some (.int .i64 id) ∧ v.cell? ⟨aa, 2, none⟩ = some (.int .i64 va) ∧ v.cell? ⟨z3, 0, none⟩ = some (.int .i64 qf) ∧ v.cell? ⟨z3, 1, none⟩ = some (.int .i64 qs) ∧ v.cell? ⟨z3, 2, none⟩ = some (.bool qd) ∧ v.cell? ⟨z5, 0, none⟩ = some (.int .i64 qf) ∧ v.cell? ⟨z5, 1, none⟩ = some (.int .i64 qs) ∧ v.cell? ⟨z5, 2, none⟩ = some (.bool qd) from fun v hv =>
          ⟨cell_of_ob (hv.keep (fun h => h) HOA.out) 1, cell_of_ob (hv.keep (fun h => h) HOA.out) 2, cell_of_ob (hv.keep (fun h => h) HQ3.out) 0, cell_of_ob (hv.keep (fun h => h) HQ3.out) 1, cell_of_ob (hv.keep (fun h => h) HQ3.out) 2, cell_of_ob (hv.keep (fun h => h) HQ5.out) 0, cell_of_ob (hv.keep (fun h => h) HQ5.out) 1, cell_of_ob (hv.keep (fun h => h) HQ5.out) 2⟩)
        rw [hw6]
        simp only [hz3, hz5]
        clear hw6 hz3 hz5 hf6 hfc hf5 hf3a hf3 o3 g1 g2 s3 q3 q5 o6 oac hHc w3 w5 HLc
        obtain ⟨n1, hn1⟩ : ∃ n, ofR l' va = n := ⟨_, rfl⟩
        obtain ⟨n2, hn2⟩ : ∃ n, fileR l' id = n := ⟨_, rfl⟩
        have HK := Lib.hid (HPc.out.1.keys (by have := HRL2.out; omega))
        have HOF := Lib.hid (show ∀ v, Fr (fun _ => False) w6 v → Calls Try.prog 14 #[.pointer (some ⟨b, 0, none⟩), .int .i64 va] v fun e w' => e = .returned (.int .i64 n1) ∧ Fr (fun _ => False) w6 w' from fun v hv => by
          obtain ⟨S, hX⟩ := (hH6.keep TwoO.steady hv).left
          have := of2_any hX HK.out va
          rw [hn1] at this
          exact this.mono fun e w' h => ⟨h.1, hv.step h.2 (fun _ h => h.elim)⟩)
        have HROF := Lib.hid (show ∀ v, Fr (fun _ => False) w6 v → Calls Try.prog 26 #[.pointer (some ⟨rb, 0, none⟩), .int .i64 va] v fun e w' => e = .returned (.int .i64 n1) ∧ Fr (fun _ => False) w6 w' from fun v hv => by
          obtain ⟨S, hX⟩ := (hH6.keep TwoO.steady hv).right
          have := roof_any hX (by have := HRL2.out; omega) va
          rw [HPc.out.1.of, hn1] at this
          exact this.mono fun e w' h => ⟨h.1, hv.step h.2 (fun _ h => h.elim)⟩)
        have HFI := Lib.hid (show ∀ v, Fr (fun _ => False) w6 v → Calls Try.prog 15 #[.pointer (some ⟨b, 0, none⟩), .int .i64 id] v fun e w' => e = .returned (.int .i64 n2) ∧ Fr (fun _ => False) w6 w' from fun v hv => by
          obtain ⟨S, hX⟩ := (hH6.keep TwoO.steady hv).left
          have := file_any hX id
          rw [hn2] at this
          exact this.mono fun e w' h => ⟨h.1, h.2 ▸ hv⟩)
        have HRFI := Lib.hid (show ∀ v, Fr (fun _ => False) w6 v → Calls Try.prog 27 #[.pointer (some ⟨rb, 0, none⟩), .int .i64 id] v fun e w' => e = .returned (.int .i64 n2) ∧ Fr (fun _ => False) w6 w' from fun v hv => by
          obtain ⟨S, v2, L2, hX, hO, _⟩ := (hH6.keep TwoO.steady hv).right
          have := rofile_any hX (by rw [← outR_len, hO]; have := HRL2.out; omega) id
          rw [hO, HPc.out.1.file, hn2] at this
          exact this.mono fun e w' h => ⟨h.1, h.2 ▸ hv⟩)
        have HID := Lib.hid (show ∀ v, Fr (fun _ => False) w6 v → Calls Try.prog 18 #[.pointer (some ⟨b, 0, none⟩)] v fun e w' => ∃ A N C, e = .returned (.slice A N C) ∧ Sl w' 3 1 (.slice A N C) (ints (idsOf l')) ∧ Fr (fun _ => False) w6 w' from fun v hv => by
          obtain ⟨S, hX⟩ := (hH6.keep TwoO.steady hv).left
          exact (ids_any hX HK.out).mono fun e w' ⟨A, N, C, h1, h2, _, h4⟩ => ⟨A, N, C, h1, h2, hv.step h4 (fun _ h => h.elim)⟩)
        have HRID := Lib.hid (show ∀ v, Fr (fun _ => False) w6 v → Calls Try.prog 29 #[.pointer (some ⟨rb, 0, none⟩)] v fun e w' => ∃ A N C, e = .returned (.slice A N C) ∧ Sl w' 3 1 (.slice A N C) (ints (idsOf l')) ∧ Fr (fun _ => False) v w' ∧ Fr (fun _ => False) w6 w' from fun v hv => by
          obtain ⟨S, v2, L2, hX, hO, _⟩ := (hH6.keep TwoO.steady hv).right
          have := roids_any hX (by rw [← outR_len, hO]; have := HRL2.out; omega)
          rw [← oids_out, hO, HPc.out.1.ids] at this
          exact this.mono fun e w' ⟨A, N, C, h1, h2, _, h4⟩ => ⟨A, N, C, h1, h2, h4, hv.step h4 (fun _ h => h.elim)⟩)
        have HIL := Lib.hid (show (idsOf l').length ≤ 1000000 by
          have h1 := HPc.out.1.ids
          have h2 := oidsF_len R' 0
          have h3 : (oids R').length ≤ R'.length := h2
          rw [h1] at h3
          have := HRL2.out; omega)
        have hpg : pgeq qf qs qd qf qs qd = true := pgeq_iff.2 rfl
        have hb1 : (ok != ok) = false := by simp
        have hb2 : ((n1 : Int) != n1) = false := by simp
        have hb3 : ((n2 : Int) != n2) = false := by simp
        clear hn1 hn2
        have hS0 := HS.out w6 (Fr.refl _ _)
        go_cut [199] from 49 to 265 (fun s wi => s = .bool false ∧ Fr (fun _ => False) w6 wi)
        case first => as_aux_lemma =>
          go_region_held3 (fun w' => w'.cell? ⟨aa, 1, none⟩ = some (.int .i64 id) ∧ w'.cell? ⟨aa, 2, none⟩ = some (.int .i64 va) ∧ w'.cell? ⟨z3, 0, none⟩ = some (.int .i64 qf) ∧ w'.cell? ⟨z3, 1, none⟩ = some (.int .i64 qs) ∧ w'.cell? ⟨z3, 2, none⟩ = some (.bool qd) ∧ w'.cell? ⟨z5, 0, none⟩ = some (.int .i64 qf) ∧ w'.cell? ⟨z5, 1, none⟩ = some (.int .i64 qs) ∧ w'.cell? ⟨z5, 2, none⟩ = some (.bool qd)) (first | exact hS0 | assumption | go_keep)
            (first
              | (go_at_call 14; refine (HOF.out _ (fr_drewO w6 _)).mono ?_; rintro e wa ⟨rfl, hfa⟩; have hSa := HS.out _ hfa)
              | (go_at_call 26; refine (HROF.out _ hfa).mono ?_; rintro e wb ⟨rfl, hfb⟩; have hSb := HS.out _ hfb)
              | (go_at_call 15; refine (HFI.out _ hfb).mono ?_; rintro e wd ⟨rfl, hfd⟩; have hSd := HS.out _ hfd)
              | (go_at_call 27; refine (HRFI.out _ hfd).mono ?_; rintro e we ⟨rfl, hfe⟩; have hSe := HS.out _ hfe)
              | (go_at_call 18; refine (HID.out _ hfe).mono ?_; rintro e wg ⟨A8, N8, C8, rfl, hs8, hfg⟩; have hSg := HS.out _ hfg)
              | (go_at_call 29; refine (HRID.out _ hfg).mono ?_; rintro e wh ⟨A9, N9, C9, rfl, hs9, hfgh, hfh⟩; have hSh := HS.out _ hfh)
              | (go_at_call 28; refine (intsEq_any (Sl.rd (Sl.fr hs8 hfgh (fun _ _ h => h))) (Sl.rd hs9) ⟨_, _, _, rfl⟩ ⟨_, _, _, rfl⟩ (HIL.out)).mono ?_; rw [decide_eq_true rfl]; rintro e wi ⟨rfl, hfhi⟩; have hfi := hfh.step hfhi (fun _ h => h.elim); have hSi := HS.out _ hfi))
          all_goals (
            have hfz := hfi
            clear hfi hS0 hH6
            go_wp2_with fail
            go_meet
            exact ⟨rfl, hfz⟩)
        case rest => as_aux_lemma =>
          obtain ⟨rfl, hfi⟩ := hcut
          clear hS0 hpg hb1 hb2 hb3 HOF HROF HFI HRFI HID HRID HIL HS HQ3 HQ5
          have hH7 := hH6.keep TwoO.steady hfi
          have HL7 := Lib.hid (HL6.out.fr hfi)
          have o7 := hfi.keep (fun h => h) HOA.out
          have e1 := cell_of_ob o7 1
          have b0 := cell_of_ob HL7.out.1 0
          have b1 := cell_of_ob HL7.out.1 1
          obtain ⟨S7, v7, L7, hX7, hO7, -⟩ := hH7.right
          obtain ⟨LL, hLL⟩ : ∃ LL, rpagesR R' id lo hi = LL := ⟨_, rfl⟩
          have hrp := ropages_any hX7 (by rw [← outR_len, hO7]; have := HRL2.out; omega) id lo hi (by rw [hO7]; exact fun o ho => (HPc.out.1.few (by have := HRL2.out; omega)).2 id o ho)
          rw [hO7, hLL] at hrp
          clear hX7 hO7 v7 L7 S7 hH6 hfi
          go_wp2_with fail
          refine hrp.mono ?_
          rintro e w7 ⟨A7, N7, C7, rfl, hs7, -, hf7⟩
          clear hrp
          have HH7 := Lib.hid (hH7.keep TwoO.steady hf7)
          have HLb := Lib.hid (HL7.out.fr hf7)
          have o8 := hf7.keep (fun h => h) o7
          have HO8 := Lib.hid o8
          have HS7 := Lib.hid hs7
          have e1' := cell_of_ob o8 1
          have b0' := cell_of_ob HLb.out.1 0
          have b1' := cell_of_ob HLb.out.1 1
          have s8 := ob_lt o8
          have s9 := ob_lt HLb.out.1
          clear hH7 HL7 o7 e1 b0 b1 o8 hs7 hf7
          have heq := fun w f x y => eql_func_nil (P := Try.prog) w 44 f x y Try.underlying44
          go_wp2_with fail
          refine (pages_any (some ⟨b, 0, none⟩) id lo hi _).mono ?_
          rintro e t ⟨rfl, ht⟩
          obtain ⟨z, hz⟩ : ∃ z, w7.heap.size = z := ⟨_, rfl⟩
          have hf7t : Fr (fun _ => False) w7 t := by rw [ht]; exact (((((Fr.refl _ _).alloc _).alloc _).alloc _).alloc _).alloc _
          have hzt : t.heap.size = z + 5 := by rw [ht]; simp; omega
          have ol : ob t z = some (.cells #[.slice A7 N7 C7] 61 (0, 0)) := by rw [ht, ob_alloc _ _ _ (by simp <;> omega), ob_alloc _ _ _ (by simp <;> omega), ob_alloc _ _ _ (by simp <;> omega), ob_alloc _ _ _ (by simp <;> omega), ob_newAt _ _ _ (by first | omega | (simp <;> omega))]
          have ox : ob t (z + 1) = some (.cells #[.pointer (some ⟨b, 0, none⟩)] 24 (0, 0)) := by rw [ht, ob_alloc _ _ _ (by simp <;> omega), ob_alloc _ _ _ (by simp <;> omega), ob_alloc _ _ _ (by simp <;> omega), ob_newAt _ _ _ (by first | omega | (simp <;> omega))]
          have oi : ob t (z + 1 + 1) = some (.cells #[.int .i64 id] 3 (0, 0)) := by rw [ht, ob_alloc _ _ _ (by simp <;> omega), ob_alloc _ _ _ (by simp <;> omega), ob_newAt _ _ _ (by first | omega | (simp <;> omega))]
          have olo : ob t (z + 1 + 2) = some (.cells #[.int .i64 lo] 3 (0, 0)) := by rw [ht, ob_alloc _ _ _ (by simp <;> omega), ob_newAt _ _ _ (by first | omega | (simp <;> omega))]
          have ohi : ob t (z + 1 + 3) = some (.cells #[.int .i64 hi] 3 (0, 0)) := by rw [ht, ob_newAt _ _ _ (by first | omega | (simp <;> omega))]
          simp only [World.size_alloc, hz]
          clear ht e1' b0' b1' s8 s9
          go_wp2_with fail
          obtain ⟨t2, ht2⟩ : ∃ t2, t.alloc (.cells #[.int .i64 0] 3) = t2 := ⟨_, rfl⟩
          rw [ht2]
          have hft2 : Fr (fun _ => False) t t2 := by rw [← ht2]; exact (Fr.refl _ _).alloc _
          have hf72 := hf7t.step hft2 (fun _ h => h.elim)
          have hzt2 : t2.heap.size = z + 6 := by rw [← ht2]; simp; omega
          have ok0 : ob t2 (z + 5) = some (.cells #[.int .i64 (([] : List (Int × Pg)).length : Nat)] 3 (0, 0)) := by rw [← ht2, ← hzt]; exact ob_new _ _
          have ol2 := hft2.keep (fun h => h) ol
          have hHr : Held (fun k => ((k = ba ∨ k = ba + 1 ∨ k ∈ Ds) ∨ k = aa) ∨ z ≤ k) W t2 (TwoO b most l' rb R') := (HH7.out.safe (fun k hk hn => by
            rcases hk with hk | hk
            · exact (hn hk).elim
            · omega)).keep TwoO.steady hf72
          have HL2 := Lib.hid (HLb.out.fr hf72)
          have haz : aa < z := by rw [← hz]; exact ob_lt HO8.out
          obtain ⟨S0, m0, L0, hOT0, hout0, -⟩ := HH7.out.left
          have hpg : pgsOf L0 id lo hi = LL := by
            unfold pgsOf
            rw [← hLL, HPc.out.1.pages, ← hout0, get_outL]
            cases alGet L0 id <;> rfl
          have hst := pagesA_stops (fun k => k = z + 5) 8 (z + 1) (z + 1 + 1) (z + 1 + 2) (z + 1 + 3) id lo hi t2 (hOT0.keep hf72) (fun e he => by
            obtain ⟨o', _, ho⟩ := HPc.out.1.some' (show alGet l' id = some e.2.2 by rw [← hout0, get_outL, he]; rfl)
            exact ⟨ho.pages.nodup, ho.pages.keys⟩) (hft2.keep (fun h => h) ox) (hft2.keep (fun h => h) oi) (hft2.keep (fun h => h) olo) (hft2.keep (fun h => h) ohi) (fun k hk => by
            rcases hk with hk | hk | hk
            · have := hOT0.slt hk; omega
            · omega
            · omega) (fun k hk => by omega)
          rw [hpg] at hst
          have HS2 := Lib.hid (Sl.fr HS7.out hf72 (fun _ _ h => h))
          have HZ7 := Lib.hid (show ∀ k, (Value.slice A7 N7 C7).ownBlock = some k → k < z from fun k hk => by rw [← hz]; exact HS7.out.lt hk)
          have HN7 := Lib.hid (show N7 = LL.length from by
            have h1 := HS7.out.len
            rw [at_len4] at h1
            simp only [sliceLen] at h1
            omega)
          have HL5k := Lib.hid (show LL.length ≤ 5000 by
            have h1 := (HPc.out.1.few (by have := HRL2.out; omega)).2 id
            rw [← hLL]
            unfold rpagesR
            cases h2 : rgetR R' id with
            | none => simp
            | some o => exact Nat.le_trans (inR_len _ _ _) (h1 o h2))
          have HOL := Lib.hid ol2
          have HBZ := Lib.hid (show ∀ k, k = ba ∨ k = ba + 1 → ¬ k = z + 5 from fun k hk => by have := HBL.out; omega)
          clear ht2 hft2 hf7t hf72 ol ol2 ox oi olo ohi hOT0 hout0 hpg hz hzt HH7 HLb HO8 HS7 heq hLL HOA HL6 HK HPL
          refine (wpIn_wide (n := 9)).1 ?_
          refine wpIn_range_pgB (s1 := 27) (s2 := 28) (brk := 3) (stop := stop) (D := fun k => k = z + 5) rfl hst
            (fun pre V => Fr (fun k => k = z + 5) t2 V ∧ pre <+: LL ∧ ob V (z + 5) = some (.cells #[.int .i64 (pre.length : Nat)] 3 (0, 0))) ?own (fun _ _ h => h.1.size) ⟨Fr.refl _ _, List.nil_prefix, ok0⟩ ?assign ?body ?done
          case own =>
            rintro pre V V' row ⟨h1, h2, h3⟩ hgr hrow
            have hne : ∀ r, row = some r → ¬ r = z + 5 := fun r e hr => by
              have := (hrow r e).1; omega
            exact ⟨h1.step (Fr.of_grown hgr) (fun k hk => .inr (hrow k hk.symm).1), h2, (hgr.block (z + 5) (ob_lt h3) (fun e => hne _ e.symm rfl)).trans h3⟩
          case assign =>
            rintro l0 ⟨k, f, sl, d⟩ V K hK
            simp only [pgC, pgV] at hK ⊢
            gi_wp2
            exact hK
          case body => as_aux_lemma =>
            rintro l0 pre ⟨k, f, sl, d⟩ pb V ⟨hfV, hpre, hn⟩ hpb hop hlen
            simp only [pgC, pgV] at hop ⊢
            obtain ⟨⟨k', f', sl', d'⟩, hx'⟩ : ∃ x, LL[pre.length]? = some x := ⟨_, List.getElem?_eq_getElem hlen⟩
            obtain ⟨g7, off7, nn, cc, heq, hgl7, hcs⟩ := Rd.at atE_len (by decide) (Sl.rd (Sl.fr HS2.out hfV (fun k hk hd => by have := HZ7.out k hk; omega))) hx'
            cases heq
            have HX := Lib.hid (show pre ++ [(k, f, sl, d)] <+: LL → (k', f', sl', d') = (k, f, sl, d) from fun hp => by
              obtain ⟨r, hr⟩ := hp
              rw [← hr] at hx'
              simpa using hx'.symm)
            have HY := Lib.hid (show (k', f', sl', d') = (k, f, sl, d) → pre ++ [(k, f, sl, d)] <+: LL from fun he => by
              obtain ⟨r, hr⟩ := hpre
              rw [← hr] at hx' ⊢
              cases r with
              | nil => simp at hx'
              | cons y r =>
                simp at hx'
                exact ⟨r, by rw [hx', he]; simp⟩)
            have HI := Lib.hid (show Fr (fun k => k = z + 5) t2 V ∧ pre <+: LL ∧ ob V (z + 5) = some (.cells #[.int .i64 (pre.length : Nat)] 3 (0, 0)) from ⟨hfV, hpre, hn⟩)
            have hn7 : pre.length < N7 := by rw [HN7.out]; exact hlen
            have hn5 : pre.length < 5000 := Nat.lt_of_lt_of_le hlen HL5k.out
            obtain ⟨pn, hpn⟩ : ∃ pn, pre.length = pn := ⟨_, rfl⟩
            have HPN := Lib.hid hpn
            rw [hpn] at hn hn7 hn5 hcs
            have x0 : V.cell? ⟨g7, off7 + pn * 4, none⟩ = some (.int .i64 k') := hcs 0 _ rfl
            have x1 : V.cell? ⟨g7, off7 + pn * 4 + 1, none⟩ = some (.int .i64 f') := hcs 1 _ rfl
            have x2 : V.cell? ⟨g7, off7 + pn * 4 + 2, none⟩ = some (.int .i64 sl') := hcs 2 _ rfl
            have x3 : V.cell? ⟨g7, off7 + pn * 4 + 3, none⟩ = some (.bool d') := hcs 3 _ rfl
            have oba := hfV.keep (HBZ.out ba (.inl rfl)) HL2.out.1
            have oba1 := hfV.keep (HBZ.out (ba + 1) (.inr rfl)) HL2.out.2.1
            have c2 : V.cell? ⟨ba, 2, none⟩ = some (.int .i64 stop) := cell_of_ob oba 2
            have cb1 : V.cell? ⟨ba + 1, 0, none⟩ = some (.bool false) := cell_of_ob oba1 0
            have fb1 := frozen_of_ob oba1 0
            have ck : V.cell? ⟨z + 5, 0, none⟩ = some (.int .i64 pn) := cell_of_ob hn 0
            have fk := frozen_of_ob hn 0
            have cz : V.cell? ⟨z, 0, none⟩ = some (.slice (some ⟨g7, off7, none⟩) N7 C7) := cell_of_ob (hfV.keep (by omega) HOL.out) 0
            have p0 : V.cell? ⟨pb, 0, none⟩ = some (.int .i64 f) := cell_of_ob hop 0
            have p1 : V.cell? ⟨pb, 1, none⟩ = some (.int .i64 sl) := cell_of_ob hop 1
            have p2 : V.cell? ⟨pb, 2, none⟩ = some (.bool d) := cell_of_ob hop 2
            have HNV := Lib.hid hn
            have hba2 : ba + 1 < t2.heap.size := by have := HBL.out; omega
            clear hx' hcs hlen hpre hfV hn hpn oba oba1 hst hop
            by_cases hs : (pn : Int) = stop
            · gi_wp2
              exact ⟨KeepsFrom.refl _ _, .inr ⟨rfl, pre, (k, f, sl, d), rfl, HI.out, by rw [HPN.out]; exact hs⟩⟩
            · gi_wp2
              have hkv : ∀ q, KeepsFrom t2.heap.size V (V.drewN q) := fun q => ⟨Nat.le_refl _, fun i o _ hi _ => hi⟩
              have hkw : ∀ (X : World) q, KeepsFrom t2.heap.size X (X.drewN q) := fun X q => ⟨Nat.le_refl _, fun i o _ hi _ => hi⟩
              have hge : decide (N7 ≤ pn) = false := decide_eq_false (by omega)
              by_cases hk : k' = k
              · subst hk
                have hne : ((k' : Int) != k') = false := by simp
                cases hpe : pgeq f' sl' d' f sl d with
                | false =>
                  have hpb : (!pgeq f' sl' d' f sl d) = true := by rw [hpe]; rfl
                  have HX1 := Lib.hid (show ¬ (pre ++ [(k', f, sl, d)] <+: LL) from fun hp => by
                    have h1 := HX.out hp
                    simp only [Prod.mk.injEq, true_and] at h1
                    obtain ⟨rfl, rfl, rfl⟩ := h1
                    rw [pgeq_iff.2 rfl] at hpe
                    cases hpe)
                  refine wpIn_region_quietI (fun _ => trivial) (by kernel_rfl) (by kernel_rfl) (by kernel_rfl) ?_
                  repeat (go_big_quiet_step (fail))
                  first | refine wpQuiet_nil ?_ | ((set_option pp.deepTerms true in set_option pp.maxSteps 1000000 in trace_state); go_big_quiet_want)
                  intro _ hw'
                  obtain ⟨nq, rfl⟩ := hw'
                  gi_wp2
                  exact ⟨by first | exact keepsFrom_set (hkv _) hba2 | exact (keepsFrom_set (KeepsFrom.refl _ _) hba2).trans (hkw _ _), .inl HX1.out⟩
                | true =>
                  have hpb : (!pgeq f' sl' d' f sl d) = false := by rw [hpe]; rfl
                  have h1 := pgeq_iff.1 hpe
                  have HP1 := Lib.hid (HY.out (by rw [h1]))
                  clear h1
                  refine wpIn_region_quietI (fun _ => trivial) (by kernel_rfl) (by kernel_rfl) (by kernel_rfl) ?_
                  repeat (go_big_quiet_step (fail))
                  first | refine wpQuiet_nil ?_ | ((set_option pp.deepTerms true in set_option pp.maxSteps 1000000 in trace_state); go_big_quiet_want)
                  intro _ hw'
                  obtain ⟨nq, rfl⟩ := hw'
                  gi_wp2
                  refine ⟨?_, K3.of_fr (S := fun k => k = z + 5) ?hfd (fun _ h _ => h), HI.out.1.step ?hfd (fun _ h => .inl h), HP1.out, ?_⟩
                  case hfd => first | exact ((Fr.refl _ V).step (fr_drewO V nq) (fun _ h => h.elim)).setCell _ _ (.inl rfl) | exact ((Fr.refl _ V).setCell _ _ (.inl rfl)).step (fr_drewO _ nq) (fun _ h => h.elim)
                  · first | exact keepsFrom_set (hkv _) (by omega) | exact (keepsFrom_set (KeepsFrom.refl _ _) (by omega)).trans (hkw _ _)
                  · rw [List.length_append, HPN.out]
                    exact ob_setCell_same HNV.out (.int .i64 ((pn : Int) + 1))
              · have hne : ((k' : Int) != k) = true := by simpa using hk
                have HX1 := Lib.hid (show ¬ (pre ++ [(k, f, sl, d)] <+: LL) from fun hp => by
                  have h1 := HX.out hp
                  simp only [Prod.mk.injEq] at h1
                  exact hk h1.1)
                refine wpIn_region_quietI (fun _ => trivial) (by kernel_rfl) (by kernel_rfl) (by kernel_rfl) ?_
                repeat (go_big_quiet_step (fail))
                first | refine wpQuiet_nil ?_ | ((set_option pp.deepTerms true in set_option pp.maxSteps 1000000 in trace_state); go_big_quiet_want)
                intro _ hw'
                obtain ⟨nq, rfl⟩ := hw'
                gi_wp2
                exact ⟨by first | exact keepsFrom_set (hkv _) hba2 | exact (keepsFrom_set (KeepsFrom.refl _ _) hba2).trans (hkw _ _), .inl HX1.out⟩
          case done => as_aux_lemma =>
            rintro M V pre hM ⟨hfV, hpre, hn⟩ hend hm
            have hH4 := hHr.beside TwoO.steady hfV (fun k hk => ⟨.inr (by omega), by have := HWA.out; omega⟩)
            have hMz : z + 6 ≤ M := by rw [← hzt2]; exact hM
            have hH5 : Held (fun k => k = ba ∨ k = ba + 1 ∨ k ∈ M :: Ds) W V (TwoO b most l' rb R') := hH4.safe (fun k hk hn => by
              exfalso
              apply hn
              rcases hk with hk | hk | hk
              · exact .inl (.inl (.inl hk))
              · exact .inl (.inl (.inr (.inl hk)))
              · rcases List.mem_cons.1 hk with hk | hk
                · exact .inr (by omega)
                · exact .inl (.inl (.inr (.inr hk))))
            have hL5 : LocO V W ba lo hi stop (M :: Ds) := ⟨hfV.keep (HBZ.out ba (.inl rfl)) HL2.out.1, hfV.keep (HBZ.out (ba + 1) (.inr rfl)) HL2.out.2.1, List.nodup_cons.2 ⟨fun h => by have := HAA.out M h; omega, HL2.out.2.2.1⟩, fun D hD => by
              rcases List.mem_cons.1 hD with rfl | hD
              · exact ⟨hm, by have := HWA.out; omega⟩
              · exact ⟨hfV.keep (fun h => by have := HAA.out D hD; omega) (HL2.out.2.2.2 D hD).1, (HL2.out.2.2.2 D hD).2⟩⟩
            have HL5 := Lib.hid hL5
            have hend' : pre.length = N7 ∨ ((pre.length : Int) = stop ∧ pre.length < N7) := by
              rw [HN7.out]
              rcases hend with h | h
              · exact .inl (by rw [h])
              · exact .inr h
            have cz : V.cell? ⟨z, 0, none⟩ = some (.slice A7 N7 C7) := cell_of_ob (hfV.keep (by omega) HOL.out) 0
            obtain ⟨pn, hpn⟩ : ∃ pn, pre.length = pn := ⟨_, rfl⟩
            rw [hpn] at hn hend'
            have ck : V.cell? ⟨z + 5, 0, none⟩ = some (.int .i64 pn) := cell_of_ob hn 0
            have c2 : V.cell? ⟨ba, 2, none⟩ = some (.int .i64 stop) := cell_of_ob hL5.1 2
            have hdm : ({ target := .collected M, args := #[] } : Deferred) :: marks Ds = marks (M :: Ds) := rfl
            clear hHr hH4 hst hm hL5 hn hpn hfV hpre hend hMz hM ok0
            rw [hdm]
            refine ⟨?_, ?_⟩
            all_goals (
              rcases hend' with h1 | ⟨h1, h2⟩
              · subst h1
                by_cases h3 : stop < 0
                · go_wp2_with fail
                  refine ⟨?_, ?_⟩
                  · unfold OAI
                    (repeat apply Exists.intro)
                    refine ⟨?_, rfl⟩
                    exact ⟨j + 1, M :: Ds, l', R', by omega, by go_num, rfl, hH5, HPc, HL5⟩
                  · have h9 : N - ((j : Int) + 1).toNat < N - (j : Int).toNat := by omega
                    exact h9
                · by_cases h4 : (pn : Int) < stop
                  · go_wp2_with fail
                    refine ⟨?_, ?_⟩
                    · unfold OAI
                      (repeat apply Exists.intro)
                      refine ⟨?_, rfl⟩
                      exact ⟨j + 1, M :: Ds, l', R', by omega, by go_num, rfl, hH5, HPc, HL5⟩
                    · have h9 : N - ((j : Int) + 1).toNat < N - (j : Int).toNat := by omega
                      exact h9
                  · go_wp2_with fail
                    refine ⟨?_, ?_⟩
                    · unfold OAI
                      (repeat apply Exists.intro)
                      refine ⟨?_, rfl⟩
                      exact ⟨j + 1, M :: Ds, l', R', by omega, by go_num, rfl, hH5, HPc, HL5⟩
                    · have h9 : N - ((j : Int) + 1).toNat < N - (j : Int).toNat := by omega
                      exact h9
              · have h3 : ¬ stop < 0 := by omega
                have h4 : ¬ (N7 : Int) < stop := by omega
                clear h1
                go_wp2_with fail
                refine ⟨?_, ?_⟩
                · unfold OAI
                  (repeat apply Exists.intro)
                  refine ⟨?_, rfl⟩
                  exact ⟨j + 1, M :: Ds, l', R', by omega, by go_num, rfl, hH5, HPc, HL5⟩
                · have h9 : N - ((j : Int) + 1).toNat < N - (j : Int).toNat := by omega
                  exact h9)

    · obtain rfl : j = N := by omega
      go_wp2_with fail
      refine (lives_any _).mono ?_
      rintro e w9 ⟨rfl, hf9⟩
      have hl9 := (HLO.out).fr hf9
      have o9 := hl9.2.1
      have c9 := cell_of_ob o9 0
      have z9 := frozen_of_ob o9 0
      have s9 := ob_lt o9
      have hfin : Fr (fun _ => False) W (w9.setCell ⟨ba + 1, 0, none⟩ (.bool true)) := ((hH.hf).step hf9 (fun _ h => h.elim)).setCell _ _ (.inr (by have := HBA.out; simp; omega))
      have hob : ob (w9.setCell ⟨ba + 1, 0, none⟩ (.bool true)) (ba + 1) = some (.cells #[.bool true] 4 (0, 0)) := ob_setCell_same o9 _
      have HL9 := Lib.hid hl9
      have HO9 := Lib.hid o9
      have hba9 : ba ≤ w9.heap.size := by omega
      clear hf9 o9 hl9 hH
      go_wp2_with fail
      change LeavesInM _ _ _ _ _ _ (marks Ds) _ _
      refine leaves_marks (B := ba) Ds _ HL9.out.2.2.1 (fun D hD => ?_) (by simpa using hba9) (fun w' hw' hc => ?_)
      · obtain ⟨h1, h2⟩ := HL9.out.2.2.2 D hD
        refine ⟨(ob_setCell _ _ _ _ (fun e => ?_)).trans h1, by have := HBA.out; omega⟩
        have h3 := HO9.out
        rw [show ba + 1 = D from e.symm] at h3
        rw [h1] at h3
        cases h3
      have hc2 := cell_of_ob (hc _ _ _ _ hob) 0
      refine ⟨.bool true, ?_, rfl, ⟨hw'.os.trans hfin.os, hw'.tape.trans hfin.tape, hw'.output.trans hfin.output, Nat.le_trans hfin.size hw'.size, fun k hk hn => (hw'.block k (by have := HBA.out; omega)).trans (hfin.block k hk hn)⟩⟩
      simp at hc2
      simp [results, Try.f6, go_sem, hc2]
end Go.Proofs.Ytopfknikmhkaeaa