/- vmap.Map, in plain Lean: what each method makes of a list of entries. No conditions. -/
import Derived.Test.YtopglbkcciigbaaEnSameP
import Derived.Test.YtopglbkcciigbaaEnSpacesP
import Derived.Test.YtopglbkcciigbaaEnGoodE
namespace Go.Proofs.Ytopglbkcciigbaa
open Go.RowKit
set_option linter.unusedSimpArgs false
set_option linter.unusedVariables false
/-- An entry put at a place. -/
def atE (x : Ent) (a : Int) : Ent := ⟨a, a + (x.e - x.s), x.f, x.o, x.sh, x.pr, x.mx, x.inh, x.adv, x.wi⟩
def withinB (lo n : Int) : Bool := decide (0 ≤ lo ∧ 1 ≤ n ∧ n ≤ 4096 ∧ lo ≤ 67108864 - n)
theorem withinB_iff {lo n : Int} : withinB lo n = true ↔ 0 ≤ lo ∧ 1 ≤ n ∧ n ≤ 4096 ∧ lo ≤ 67108864 - n := by unfold withinB; exact decide_eq_true_iff
/-- What a call answers, and the entries behind it. -/
structure VR where
  n : Int
  gone : List Ent
  err : Int
  l : List Ent
def mapV (l : List Ent) (a : Int) (x : Ent) (fx : Bool) : VR :=
  if x.s < 0 ∨ x.e ≤ x.s ∨ 4096 < x.e - x.s then ⟨0, [], 2, l⟩
  else if goodB (atE x 0) = false ∨ (fx = true ∧ withinB a (x.e - x.s) = false) then ⟨0, [], 2, l⟩
  else if fx = true then ⟨a, goneL l a (a + (x.e - x.s)), 0, mergeL (insL (leftL l a (a + (x.e - x.s))) (atE x a))⟩
  else if (spaceF l a (x.e - x.s)).2 = true then ⟨(spaceF l a (x.e - x.s)).1, [], 0, mergeL (insL l (atE x (spaceF l a (x.e - x.s)).1))⟩
  else ⟨0, [], 5, l⟩
def unmapV (l : List Ent) (lo n : Int) : VR := if withinB lo n = false then ⟨0, [], 2, l⟩ else ⟨0, goneL l lo (lo + n), 0, mergeL (leftL l lo (lo + n))⟩
def setL (l : List Ent) (lo hi : Int) (f : Ent → Ent) : List Ent := (clipL (clipL l lo) hi).map fun x => if inB lo hi x then f x else x
def setV (l : List Ent) (lo n : Int) (ok : Bool) (may : Ent → Bool) (f : Ent → Ent) : VR :=
  if withinB lo n = false ∨ ok = false then ⟨0, [], 2, l⟩
  else if wholeR l lo (lo + n) = false then ⟨0, [], 5, l⟩
  else if (goneL l lo (lo + n)).all may = false then ⟨0, [], 3, l⟩
  else ⟨0, [], 0, mergeL (setL l lo (lo + n) f)⟩
def prE (p : Int) (x : Ent) : Ent := ⟨x.s, x.e, x.f, x.o, x.sh, p, x.mx, x.inh, x.adv, x.wi⟩
def inE (p : Int) (x : Ent) : Ent := ⟨x.s, x.e, x.f, x.o, x.sh, x.pr, x.mx, p, x.adv, x.wi⟩
def adE (p : Int) (x : Ent) : Ent := ⟨x.s, x.e, x.f, x.o, x.sh, x.pr, x.mx, x.inh, p, x.wi⟩
def wiE (p : Bool) (x : Ent) : Ent := ⟨x.s, x.e, x.f, x.o, x.sh, x.pr, x.mx, x.inh, x.adv, p⟩
def mayP (p : Int) (x : Ent) : Bool := decide (bits .andNot .i64 p x.mx = 0)
def okP (p : Int) : Bool := decide (0 ≤ p ∧ p ≤ 7)
def okI (p : Int) : Bool := decide (0 ≤ p ∧ p ≤ 2)
def okA (p : Int) : Bool := decide (0 ≤ p ∧ p ≤ 4)
def anyE (_ : Ent) : Bool := true
def forkL (l : List Ent) : List Ent := (l.map (wiE false)).filter fun x => !decide (x.inh = 2)
def forkV (l : List Ent) : List Ent := mergeL (forkL l)
structure VAct where
  kd : Int
  lo : Int
  pg : Int
  hw : Int
  x : Ent
  on : Bool
def actV (l : List Ent) (a : VAct) : VR :=
  if a.kd = 0 then mapV l a.lo a.x a.on
  else if a.kd = 1 then unmapV l a.lo a.pg
  else if a.kd = 2 then setV l a.lo a.pg (okP a.hw) (mayP a.hw) (prE a.hw)
  else if a.kd = 3 then setV l a.lo a.pg (okI a.hw) anyE (inE a.hw)
  else if a.kd = 4 then setV l a.lo a.pg (okA a.hw) anyE (adE a.hw)
  else if a.kd = 5 then setV l a.lo a.pg true anyE (wiE a.on)
  else if a.kd = 6 then ⟨0, [], 0, forkV l⟩
  else ⟨0, [], 0, l⟩
/-! ### What holds of a map's list -/
def FW (x : Ent) : Prop := (Lit.int .i64 x.f).wf = true
structure VOK (l : List Ent) : Prop where
  right : rightB 0 l = true
  merged : mergeL l = l
  fw : ∀ x ∈ l, FW x
theorem wf64_of {x : Int} (h0 : -9223372036854775808 ≤ x) (h1 : x < 9223372036854775808) : (Lit.int .i64 x).wf = true := WalkArith.wf_i64 (by omega)
theorem good_wf {x : Ent} (h : goodB x = true) (hf : FW x) : WfE x := by
  obtain ⟨⟨a, b, c, d, e⟩, ⟨f, g, i, j, -, k, m, n, o⟩, p, q⟩ := goodB_iff.1 h
  have ho : x.o ≤ 4096 := by
    by_cases hf : x.f = 0
    · rw [p hf]; omega
    · have := q hf; omega
  exact ⟨wf64_of (by omega) (by omega), wf64_of (by omega) (by omega), hf, wf64_of (by omega) (by omega), wf64_of (by omega) (by omega), wf64_of (by omega) (by omega), wf64_of (by omega) (by omega), wf64_of (by omega) (by omega)⟩
theorem VOK.wf {l : List Ent} (h : VOK l) : ∀ x ∈ l, WfE x := fun x hx => good_wf (rightB_mem h.right x hx).1 (h.fw x hx)
theorem VOK.nil : VOK [] := ⟨rfl, rfl, by simp⟩
theorem fw_clip {l : List Ent} {p : Int} (h : ∀ x ∈ l, FW x) : ∀ x ∈ clipL l p, FW x := fun y hy => by
  unfold clipL at hy
  obtain ⟨x, hx, hy⟩ := List.mem_flatMap.1 hy
  unfold clip1 at hy
  split at hy
  · rcases List.mem_cons.1 hy with rfl | hy
    · exact h x hx
    · rcases List.mem_cons.1 hy with rfl | hy
      · exact h x hx
      · cases hy
  · rcases List.mem_cons.1 hy with rfl | hy
    · exact h _ hx
    · cases hy
theorem fw_mergeC : ∀ (l : List Ent) (a : Ent), FW a → (∀ x ∈ l, FW x) → ∀ y ∈ mergeC a l, FW y
  | [], a, ha, _, y, hy => by simp only [mergeC, List.mem_singleton] at hy; rw [hy]; exact ha
  | x :: l, a, ha, hl, y, hy => by
    unfold mergeC at hy
    split at hy
    · exact fw_mergeC l _ (show FW (joinE a x) from ha) (fun z hz => hl z (by simp [hz])) y hy
    · rcases List.mem_cons.1 hy with rfl | hy
      · exact ha
      · exact fw_mergeC l x (hl x (by simp)) (fun z hz => hl z (by simp [hz])) y hy
theorem fw_merge {l : List Ent} (h : ∀ x ∈ l, FW x) : ∀ y ∈ mergeL l, FW y := by
  cases l with
  | nil => intro y hy; cases hy
  | cons x l => exact fw_mergeC l x (h x (by simp)) (fun z hz => h z (by simp [hz]))
theorem VOK.merge {l : List Ent} (h : rightB 0 l = true) (hf : ∀ x ∈ l, FW x) : VOK (mergeL l) := ⟨rightB_merge h, mergeL_twice l, fw_merge hf⟩
theorem fw_left {l : List Ent} (lo hi : Int) (h : ∀ x ∈ l, FW x) : ∀ x ∈ leftL l lo hi, FW x := fun x hx => fw_clip (fw_clip h) x (List.mem_filter.1 hx).1
theorem fw_gone {l : List Ent} (lo hi : Int) (h : ∀ x ∈ l, FW x) : ∀ x ∈ goneL l lo hi, FW x := fun x hx => fw_clip (fw_clip h) x (List.mem_filter.1 hx).1
/-- A change that leaves ends alone and keeps what is good good. -/
structure Sets (G : Ent → Prop) (f : Ent → Ent) : Prop where
  es : ∀ x, (f x).s = x.s
  ee : ∀ x, (f x).e = x.e
  ef : ∀ x, (f x).f = x.f
  eo : ∀ x, (f x).o = x.o
  good : ∀ x, goodB x = true → G x → goodB (f x) = true
theorem right_map {g : Ent → Ent} (hs : ∀ x, (g x).s = x.s) (he : ∀ x, (g x).e = x.e) : ∀ {l : List Ent} {last : Int}, (∀ x ∈ l, goodB (g x) = true) → rightB last l = true → rightB last (l.map g) = true
  | [], _, _, _ => rfl
  | x :: l, last, hg, h => by
    rw [rightB_cons] at h
    rw [List.map_cons, rightB_cons, hs, he]
    exact ⟨hg x (by simp), h.2.1, right_map hs he (fun y hy => hg y (by simp [hy])) h.2.2⟩
theorem right_set {l : List Ent} {lo hi : Int} {G : Ent → Prop} {f : Ent → Ent} (h : rightB 0 l = true) (hf : Sets G f) (hG : ∀ x ∈ goneL l lo hi, G x) : rightB 0 (setL l lo hi f) = true := by
  have hc := rightB_clip hi (rightB_clip lo h)
  refine right_map (fun x => ?_) (fun x => ?_) (fun x hx => ?_) hc
  · split; exact hf.es x; rfl
  · split; exact hf.ee x; rfl
  · have hg := (rightB_mem hc x hx).1
    split
    · rename_i hin
      exact hf.good x hg (hG x (List.mem_filter.2 ⟨hx, hin⟩))
    · exact hg
theorem fw_set {l : List Ent} {lo hi : Int} {G : Ent → Prop} {f : Ent → Ent} (h : ∀ x ∈ l, FW x) (hf : Sets G f) : ∀ x ∈ setL l lo hi f, FW x := fun y hy => by
  obtain ⟨x, hx, rfl⟩ := List.mem_map.1 hy
  have := fw_clip (fw_clip h) x hx
  split
  · unfold FW; rw [hf.ef]; exact this
  · exact this
theorem setL_len {l : List Ent} {lo hi : Int} {f : Ent → Ent} (h : rightB 0 l = true) : (setL l lo hi f).length ≤ l.length + 2 := by
  unfold setL; rw [List.length_map]; exact clip2_len lo hi h
theorem sets_pr {p : Int} (hp : okP p = true) : Sets (fun x => mayP p x = true) (prE p) := by
  refine ⟨fun _ => rfl, fun _ => rfl, fun _ => rfl, fun _ => rfl, fun x hg hm => ?_⟩
  have hp2 : 0 ≤ p ∧ p ≤ 7 := of_decide_eq_true hp
  have hm2 : bits .andNot .i64 p x.mx = 0 := of_decide_eq_true hm
  obtain ⟨h1, ⟨a, b, c, d, e, f⟩, h3⟩ := goodB_iff.1 hg
  exact goodB_iff.2 ⟨h1, ⟨hp2.1, hp2.2, c, d, decide_eq_true (((andNot_zero ⟨by omega, by omega⟩ c d).1 hm2).2.2), f⟩, h3⟩
theorem sets_in {p : Int} (hp : okI p = true) : Sets (fun x => anyE x = true) (inE p) := by
  refine ⟨fun _ => rfl, fun _ => rfl, fun _ => rfl, fun _ => rfl, fun x hg _ => ?_⟩
  have hp2 : 0 ≤ p ∧ p ≤ 2 := of_decide_eq_true hp
  obtain ⟨h1, ⟨a, b, c, d, e, f, g, i, j⟩, h3⟩ := goodB_iff.1 hg
  exact goodB_iff.2 ⟨h1, ⟨a, b, c, d, e, hp2.1, hp2.2, i, j⟩, h3⟩
theorem sets_ad {p : Int} (hp : okA p = true) : Sets (fun x => anyE x = true) (adE p) := by
  refine ⟨fun _ => rfl, fun _ => rfl, fun _ => rfl, fun _ => rfl, fun x hg _ => ?_⟩
  have hp2 : 0 ≤ p ∧ p ≤ 4 := of_decide_eq_true hp
  obtain ⟨h1, ⟨a, b, c, d, e, f, g, i, j⟩, h3⟩ := goodB_iff.1 hg
  exact goodB_iff.2 ⟨h1, ⟨a, b, c, d, e, f, g, hp2.1, hp2.2⟩, h3⟩
theorem sets_wi (p : Bool) : Sets (fun x => anyE x = true) (wiE p) := ⟨fun _ => rfl, fun _ => rfl, fun _ => rfl, fun _ => rfl, fun x hg _ => by
  obtain ⟨h1, h2, h3⟩ := goodB_iff.1 hg
  exact goodB_iff.2 ⟨h1, h2, h3⟩⟩
theorem right_fork {l : List Ent} (h : rightB 0 l = true) : rightB 0 (forkL l) = true :=
  rightB_filter _ (right_map (g := wiE false) (fun _ => rfl) (fun _ => rfl) (fun x hx => (sets_wi false).good x (rightB_mem h x hx).1 rfl) h)
theorem fw_fork {l : List Ent} (h : ∀ x ∈ l, FW x) : ∀ x ∈ forkL l, FW x := fun y hy => by
  obtain ⟨x, hx, rfl⟩ := List.mem_map.1 (List.mem_filter.1 hy).1
  exact h x hx
theorem fork_len (l : List Ent) : (forkL l).length ≤ l.length := Nat.le_trans (List.length_filter_le _ _) (by rw [List.length_map]; exact Nat.le_refl _)
theorem good_at {x : Ent} {a : Int} (h : goodB (atE x 0) = true) (h0 : 0 ≤ a) (h1 : a ≤ 67108864 - (x.e - x.s)) : goodB (atE x a) = true := by
  obtain ⟨⟨a1, a2, a3, a4, a5⟩, h2, h3, h4⟩ := goodB_iff.1 h
  have b2 : 0 < 0 + (x.e - x.s) := a2
  refine goodB_iff.2 ⟨⟨h0, ?_, ?_, a4, a5⟩, h2, h3, fun hf => ?_⟩
  · show a < a + (x.e - x.s); omega
  · show a + (x.e - x.s) ≤ _; omega
  · have := h4 hf
    show x.o ≤ 4096 - (a + (x.e - x.s) - a)
    have h5 : x.o ≤ 4096 - (0 + (x.e - x.s) - 0) := this
    omega
theorem fw_insL {l : List Ent} {e : Ent} (h : ∀ x ∈ l, FW x) (he : FW e) : ∀ x ∈ insL l e, FW x := fun x hx => by
  unfold insL at hx
  split at hx
  · rcases insAt_mem hx with rfl | hx
    · exact he
    · exact h x hx
  · exact h x hx
theorem fw_at {x : Ent} (h : WfE x) (a : Int) : FW (atE x a) := h.f
/-! ### Each call keeps it -/
theorem map_ok {l : List Ent} (h : VOK l) (a : Int) {x : Ent} (hx : WfE x) (fx : Bool) : VOK (mapV l a x fx).l ∧ (mapV l a x fx).l.length ≤ l.length + 3 := by
  unfold mapV
  split
  · exact ⟨h, by simp⟩
  · split
    · exact ⟨h, by simp⟩
    · split
      · refine ⟨VOK.merge (right_insL (right_left _ _ h.right)) (fw_insL (fw_left _ _ h.fw) (fw_at hx _)), ?_⟩
        have h1 := mergeL_len (insL (leftL l a (a + (x.e - x.s))) (atE x a))
        have h2 := insL_len (leftL l a (a + (x.e - x.s))) (atE x a)
        have h3 := left_len a (a + (x.e - x.s)) h.right
        show (mergeL _).length ≤ _
        omega
      · split
        · refine ⟨VOK.merge (right_insL h.right) (fw_insL h.fw (fw_at hx _)), ?_⟩
          have h1 := mergeL_len (insL l (atE x (spaceF l a (x.e - x.s)).1))
          have h2 := insL_len l (atE x (spaceF l a (x.e - x.s)).1)
          show (mergeL _).length ≤ _
          omega
        · exact ⟨h, by simp⟩
theorem unmap_ok {l : List Ent} (h : VOK l) (lo n : Int) : VOK (unmapV l lo n).l ∧ (unmapV l lo n).l.length ≤ l.length + 3 := by
  unfold unmapV
  split
  · exact ⟨h, by simp⟩
  · refine ⟨VOK.merge (right_left _ _ h.right) (fw_left _ _ h.fw), ?_⟩
    have h1 := mergeL_len (leftL l lo (lo + n))
    have h3 := left_len lo (lo + n) h.right
    show (mergeL _).length ≤ _
    omega
theorem set_ok {l : List Ent} (h : VOK l) (lo n : Int) {ok : Bool} {may : Ent → Bool} {f : Ent → Ent} (hf : ok = true → Sets (fun x => may x = true) f) : VOK (setV l lo n ok may f).l ∧ (setV l lo n ok may f).l.length ≤ l.length + 3 := by
  unfold setV
  split
  · exact ⟨h, by simp⟩
  · rename_i hc
    split
    · exact ⟨h, by simp⟩
    · split
      · exact ⟨h, by simp⟩
      · rename_i hm
        have hf' := hf (by simpa using fun e => hc (.inr e))
        refine ⟨VOK.merge (right_set h.right hf' (fun x hx => ?_)) (fw_set h.fw hf'), ?_⟩
        · have hm2 : (goneL l lo (lo + n)).all may = true := by simpa using hm
          exact List.all_eq_true.1 hm2 x hx
        · have h1 := mergeL_len (setL l lo (lo + n) f)
          have h3 := setL_len (lo := lo) (hi := lo + n) (f := f) h.right
          show (mergeL _).length ≤ _
          omega
theorem fork_ok {l : List Ent} (h : VOK l) : VOK (forkV l) ∧ (forkV l).length ≤ l.length := ⟨VOK.merge (right_fork h.right) (fw_fork h.fw), Nat.le_trans (mergeL_len _) (fork_len l)⟩
theorem act_ok {l : List Ent} (h : VOK l) {a : VAct} (hx : WfE a.x) : VOK (actV l a).l ∧ (actV l a).l.length ≤ l.length + 3 := by
  unfold actV
  split; exact map_ok h _ hx _
  split; exact unmap_ok h _ _
  split; exact set_ok h _ _ (fun e => sets_pr e)
  split; exact set_ok h _ _ (fun e => sets_in e)
  split; exact set_ok h _ _ (fun e => sets_ad e)
  split; exact set_ok h _ _ (fun _ => sets_wi _)
  split; exact ⟨(fork_ok h).1, by have := (fork_ok h).2; show (forkV l).length ≤ _; omega⟩
  exact ⟨h, by simp⟩
end Go.Proofs.Ytopglbkcciigbaa
