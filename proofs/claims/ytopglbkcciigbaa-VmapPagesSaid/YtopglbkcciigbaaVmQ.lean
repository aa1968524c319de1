/- vmap in plain Lean: what a page is. No conditions. -/
import Derived.Test.YtopglbkcciigbaaVmG
namespace Go.Proofs.Ytopglbkcciigbaa
open Go.RowKit
set_option linter.unusedSimpArgs false
set_option linter.unusedVariables false
/-- What an entry says of a page. -/
structure Att where
  f : Int
  sh : Bool
  pr : Int
  mx : Int
  inh : Int
  adv : Int
  wi : Bool
  o : Int
def attr (x : Ent) (p : Int) : Att := ⟨x.f, x.sh, x.pr, x.mx, x.inh, x.adv, x.wi, if 0 < x.f then x.o + p - x.s else 0⟩
theorem attr_like {x y : Ent} {p : Int} (h : LikeE x y p) : attr x p = attr y p := by
  obtain ⟨h1, h2, h3, h4, h5, h6, h7, h8⟩ := h
  unfold attr
  rw [h1, h2, h3, h4, h5, h6, h7]
  by_cases hf : 0 < y.f
  · rw [if_pos hf, if_pos hf, h8 (by omega)]
  · rw [if_neg hf, if_neg hf]
def pv (l : List Ent) (p : Int) : Option Att := if fok l p then some (attr (atL l p) p) else none
section
variable {l m : List Ent} {p lo hi : Int}
theorem pv_mem (hr : rightB 0 l = true) {x : Ent} (hx : x ∈ l) (hp : has x p) : pv l p = some (attr x p) ∧ fok l p = true ∧ atL l p = x := by
  obtain ⟨h1, h2⟩ := fidx_has hr hx hp
  have h3 : atL l p = x := by unfold atL; rw [h2, h1]; rfl
  exact ⟨by unfold pv; rw [h2, h3]; rfl, h2, h3⟩
theorem pv_none (h : ∀ x ∈ l, ¬ has x p) : pv l p = none ∧ fok l p = false := by
  have h1 : fok l p = false := by
    cases hf : fok l p with
    | false => rfl
    | true => obtain ⟨x, -, hx, hp⟩ := found_has hf; exact absurd hp (h x hx)
  exact ⟨by unfold pv; rw [h1]; rfl, h1⟩
theorem pv_fok : fok l p = (pv l p).isSome := by unfold pv; cases fok l p <;> rfl
theorem pv_cases (l : List Ent) (p : Int) : (∃ x ∈ l, has x p) ∨ ∀ x ∈ l, ¬ has x p := by
  by_cases h : ∃ x ∈ l, has x p
  · exact .inl h
  · exact .inr fun x hx hp => h ⟨x, hx, hp⟩
theorem pv_at (h : fok l p = true) : pv l p = some (attr (atL l p) p) := by unfold pv; rw [h]; rfl
theorem pv_sub (hl : rightB 0 l = true) (hm : rightB 0 m = true) (h1 : Sub l m) (h2 : Sub m l) : pv l p = pv m p := by
  rcases pv_cases l p with ⟨x, hx, hp⟩ | h
  · obtain ⟨y, hy, hyp, hxy⟩ := h1 x hx p hp
    rw [(pv_mem hl hx hp).1, (pv_mem hm hy hyp).1, attr_like hxy]
  · rw [(pv_none h).1]
    refine (pv_none fun y hy hyp => ?_).1.symm
    obtain ⟨x, hx, hxp, _⟩ := h2 y hy p hyp
    exact h x hx hxp
theorem pv_merge (hl : rightB 0 l = true) : pv (mergeL l) p = pv l p := pv_sub (rightB_merge hl) hl (merge_sub hl).2 (merge_sub hl).1
theorem pv_clip (hl : rightB 0 l = true) (q : Int) : pv (clipL l q) p = pv l p := pv_sub (rightB_clip q hl) hl (clip_sub l q).2 (clip_sub l q).1
theorem pv_clip2 (hl : rightB 0 l = true) : pv (clipL (clipL l lo) hi) p = pv l p := by rw [pv_clip (rightB_clip lo hl), pv_clip hl]
/-- Behind the two clips an entry that has a page of the range lies in it. -/
theorem in_span {x : Ent} (hx : x ∈ clipL (clipL l lo) hi) (hp : has x p) : inB lo hi x = true ↔ lo ≤ p ∧ p < hi := by
  obtain ⟨h1, h2⟩ := span_lo hx
  unfold has at hp
  unfold inB
  rw [Bool.and_eq_true, decide_eq_true_eq, decide_eq_true_eq]
  constructor
  · rintro ⟨a, b⟩; exact ⟨by omega, by omega⟩
  · rintro ⟨a, b⟩
    exact ⟨Int.not_lt.1 fun c => h1 ⟨c, by omega⟩, Int.not_lt.1 fun c => h2 ⟨by omega, c⟩⟩
theorem pv_filter1 (hm : rightB 0 m = true) (q : Ent → Bool) {x : Ent} (hx : x ∈ m) (hp : has x p) (hq : q x = true) : pv (m.filter q) p = pv m p := by
  rw [(pv_mem hm hx hp).1, (pv_mem (rightB_filter q hm) (List.mem_filter.2 ⟨hx, hq⟩) hp).1]
theorem pv_filter0 (q : Ent → Bool) (h : ∀ x ∈ m, has x p → q x = false) : pv (m.filter q) p = none :=
  (pv_none fun x hx hp => by
    have := h x (List.mem_filter.1 hx).1 hp
    rw [(List.mem_filter.1 hx).2] at this
    cases this).1
theorem pv_left (hl : rightB 0 l = true) : pv (leftL l lo hi) p = if lo ≤ p ∧ p < hi then none else pv l p := by
  have hc : rightB 0 (clipL (clipL l lo) hi) = true := rightB_clip hi (rightB_clip lo hl)
  unfold leftL
  by_cases hin : lo ≤ p ∧ p < hi
  · rw [if_pos hin]
    exact pv_filter0 _ fun x hx hp => by rw [(in_span hx hp).2 hin]; rfl
  · rw [if_neg hin, ← pv_clip2 (lo := lo) (hi := hi) hl]
    rcases pv_cases (clipL (clipL l lo) hi) p with ⟨x, hx, hp⟩ | h
    · exact pv_filter1 hc _ hx hp (by cases hb : inB lo hi x; rfl; exact absurd ((in_span hx hp).1 hb) hin)
    · rw [(pv_none h).1]
      exact pv_filter0 _ fun x hx hp => absurd hp (h x hx)
theorem pv_gone (hl : rightB 0 l = true) : pv (goneL l lo hi) p = if lo ≤ p ∧ p < hi then pv l p else none := by
  have hc : rightB 0 (clipL (clipL l lo) hi) = true := rightB_clip hi (rightB_clip lo hl)
  unfold goneL
  by_cases hin : lo ≤ p ∧ p < hi
  · rw [if_pos hin, ← pv_clip2 (lo := lo) (hi := hi) hl]
    rcases pv_cases (clipL (clipL l lo) hi) p with ⟨x, hx, hp⟩ | h
    · exact pv_filter1 hc _ hx hp ((in_span hx hp).2 hin)
    · rw [(pv_none h).1]
      exact pv_filter0 _ fun x hx hp => absurd hp (h x hx)
  · rw [if_neg hin]
    exact pv_filter0 _ fun x hx hp => by cases hb : inB lo hi x; rfl; exact absurd ((in_span hx hp).1 hb) hin
theorem pv_set {G : Ent → Prop} {f : Ent → Ent} {F : Att → Att} (hl : rightB 0 l = true) (hf : Sets G f) (hG : ∀ x ∈ goneL l lo hi, G x) (hF : ∀ x, attr (f x) p = F (attr x p)) :
    pv (setL l lo hi f) p = if lo ≤ p ∧ p < hi then (pv l p).map F else pv l p := by
  have hc : rightB 0 (clipL (clipL l lo) hi) = true := rightB_clip hi (rightB_clip lo hl)
  have hs := right_set hl hf hG
  rw [← pv_clip2 (lo := lo) (hi := hi) hl]
  rcases pv_cases (clipL (clipL l lo) hi) p with ⟨x, hx, hp⟩ | h
  · rw [(pv_mem hc hx hp).1]
    have hm : (if inB lo hi x then f x else x) ∈ setL l lo hi f := List.mem_map.2 ⟨x, hx, rfl⟩
    by_cases hin : lo ≤ p ∧ p < hi
    · rw [(in_span hx hp).2 hin, if_pos rfl] at hm
      rw [if_pos hin, (pv_mem hs hm (by unfold has at hp ⊢; rw [hf.es, hf.ee]; exact hp)).1, hF]
      rfl
    · have hb : inB lo hi x = false := by cases hb : inB lo hi x; rfl; exact absurd ((in_span hx hp).1 hb) hin
      rw [hb, if_neg (by simp)] at hm
      rw [if_neg hin, (pv_mem hs hm hp).1]
  · rw [(pv_none h).1]
    have : pv (setL l lo hi f) p = none := (pv_none fun y hy hyp => by
      obtain ⟨x, hx, rfl⟩ := List.mem_map.1 hy
      refine h x hx ?_
      unfold has at hyp ⊢
      split at hyp
      · rw [hf.es, hf.ee] at hyp; exact hyp
      · exact hyp).1
    rw [this]
    split <;> rfl
instance (x : Ent) (p : Int) : Decidable (has x p) := inferInstanceAs (Decidable (_ ∧ _))
theorem pv_ins {e : Ent} (hl : rightB 0 l = true) (he : goodB e = true) (hfr : freeB l e = true) : pv (insAt l e) p = if has e p then some (attr e p) else pv l p := by
  have hi := right_ins he hl (goodE_of he).s0 hfr
  by_cases hp : has e p
  · rw [if_pos hp]
    have hm : e ∈ insAt l e := by unfold insAt; simp
    exact (pv_mem hi hm hp).1
  · rw [if_neg hp]
    rcases pv_cases l p with ⟨x, hx, hxp⟩ | h
    · have hm : x ∈ insAt l e := by
        unfold insAt
        rw [List.mem_append, List.mem_cons]
        rw [← List.take_append_drop (fidx l e.s) l, List.mem_append] at hx
        rcases hx with h | h
        · exact .inl h
        · exact .inr (.inr h)
      rw [(pv_mem hl hx hxp).1, (pv_mem hi hm hxp).1]
    · rw [(pv_none h).1]
      refine (pv_none fun x hx hxp => ?_).1
      rcases insAt_mem hx with rfl | hx
      · exact hp hxp
      · exact h x hx hxp
def unw (a : Att) : Att := ⟨a.f, a.sh, a.pr, a.mx, a.inh, a.adv, false, a.o⟩
theorem pv_fork (hl : rightB 0 l = true) : pv (forkV l) p = (pv l p).bind fun a => if a.inh = 2 then none else some (unw a) := by
  unfold forkV
  rw [pv_merge (right_fork hl)]
  rcases pv_cases l p with ⟨x, hx, hp⟩ | h
  · rw [(pv_mem hl hx hp).1, Option.bind_some]
    show pv (forkL l) p = if x.inh = 2 then none else some (attr (wiE false x) p)
    by_cases hi : x.inh = 2
    · rw [if_pos hi]
      refine (pv_none fun y hy hyp => ?_).1
      obtain ⟨hy1, hy2⟩ := List.mem_filter.1 hy
      obtain ⟨z, hz, rfl⟩ := List.mem_map.1 hy1
      have h1 := (pv_mem hl hz hyp).2.2
      have h2 := (pv_mem hl hx hp).2.2
      rw [h1] at h2
      subst h2
      simp [wiE, hi] at hy2
    · rw [if_neg hi]
      exact (pv_mem (right_fork hl) (List.mem_filter.2 ⟨List.mem_map.2 ⟨x, hx, rfl⟩, by simp [wiE, hi]⟩) hp).1
  · rw [(pv_none h).1]
    refine (pv_none fun y hy hyp => ?_).1
    obtain ⟨hy1, _⟩ := List.mem_filter.1 hy
    obtain ⟨z, hz, rfl⟩ := List.mem_map.1 hy1
    exact h z hz hyp
/-- What is put at a place that was cut out is free there. -/
theorem free_left {e : Ent} (hl : rightB 0 l = true) (he : goodB e = true) : freeB (leftL l e.s e.e) e = true := by
  have hr := right_left e.s e.e hl
  rw [freeB_all (goodE_of he).se hr, List.all_eq_true]
  intro x hx
  have hg := (goodE_of (rightB_mem hr x hx).1).se
  obtain ⟨hc, hn⟩ := List.mem_filter.1 hx
  obtain ⟨h1, h2⟩ := span_lo hc
  have hse := (goodE_of he).se
  unfold apart
  by_cases ha : x.e ≤ e.s
  · rw [decide_eq_true ha]; rfl
  · have hb : e.e ≤ x.s := by
      refine Decidable.byContradiction fun hb => ?_
      have h3 : e.s ≤ x.s := Int.not_lt.1 fun c => h1 ⟨c, by omega⟩
      have h4 : x.e ≤ e.e := Int.not_lt.1 fun c => h2 ⟨by omega, c⟩
      simp [inB, h3, h4] at hn
    rw [decide_eq_true hb]; simp
theorem free_space {e : Ent} (hl : rightB 0 l = true) (he : goodB e = true) (hs : SpaceOK l (e.e - e.s) e.s) : freeB l e = true := by
  rw [freeB_all (goodE_of he).se hl, List.all_eq_true]
  intro x hx
  unfold apart
  rcases hs.free x hx with h | h
  · rw [decide_eq_true h]; rfl
  · rw [decide_eq_true (show e.e ≤ x.s by omega)]; simp
end
/-- What a law's loop over acts keeps. -/
structure Inv (W w : World) (b : Nat) (v : Value) (l : List Ent) (t : Nat) : Prop where
  ok : VOK l
  len : l.length ≤ 3 * t
  lo : W.heap.size ≤ b
  own : ∀ k, v.ownBlock = some k → W.heap.size ≤ k
  fr : Fr (fun _ => False) W w
theorem Inv.act {W wr w1 w5 : World} {b b' : Nat} {v v' : Value} {l : List Ent} {t : Nat} {a : VAct} (HI : Inv W wr b v l t) (hfa : Fr (fun _ => False) wr w1) (hx : WfE a.x) (hkd : (b' = b ∧ a.kd ≠ 6) ∨ (w1.heap.size ≤ b' ∧ a.kd = 6))
    (hov : ∀ k, v'.ownBlock = some k → v.ownBlock = some k ∨ w1.heap.size ≤ k) (hf5 : Fr (fun k => k = b) w1 w5) : Inv W w5 b' v' (actV l a).l (t + 1) := by
  have hok := act_ok HI.ok (a := a) hx
  have h1 := hfa.size
  have h2 := HI.fr.size
  have h3 := HI.lo
  refine ⟨hok.1, by have := hok.2; have := HI.len; omega, ?_, fun k hk => ?_, (HI.fr.also hfa).step hf5 (fun k hk => .inr (by omega))⟩
  · rcases hkd with ⟨h, _⟩ | ⟨h, _⟩ <;> omega
  · rcases hov k hk with h | h
    · exact HI.own k h
    · omega
theorem Inv.keep {W w w1 : World} {b : Nat} {v : Value} {l : List Ent} {t : Nat} (h : Inv W w b v l t) (hf : Fr (fun _ => False) w w1) : Inv W w1 b v l t := ⟨h.ok, h.len, h.lo, h.own, h.fr.also hf⟩
/-- A child's page. -/
theorem fork_page {l : List Ent} {p : Int} (hl : rightB 0 l = true) :
    fok (forkV l) p = (fok l p && !decide ((atL l p).inh = 2)) ∧ (fok (forkV l) p = true → ∃ zs ze zo, atL (forkV l) p = ⟨zs, ze, (atL l p).f, zo, (atL l p).sh, (atL l p).pr, (atL l p).mx, (atL l p).inh, (atL l p).adv, false⟩ ∧ (0 < (atL l p).f → zo - zs = (atL l p).o - (atL l p).s)) := by
  have h := pv_fork (p := p) hl
  have h1 := pv_fok (l := forkV l) (p := p)
  rw [h] at h1
  cases hf : fok l p with
  | false =>
    rw [show pv l p = none by unfold pv; rw [hf]; rfl] at h1
    refine ⟨by rw [h1]; rfl, fun hc => by rw [h1] at hc; cases hc⟩
  | true =>
    rw [pv_at hf, Option.bind_some] at h h1
    by_cases hi : (atL l p).inh = 2
    · have hi' : (attr (atL l p) p).inh = 2 := hi
      rw [if_pos hi'] at h1
      refine ⟨by rw [h1, decide_eq_true hi]; rfl, fun hc => by rw [h1] at hc; cases hc⟩
    · have hi' : ¬ (attr (atL l p) p).inh = 2 := hi
      rw [if_neg hi'] at h h1
      refine ⟨by rw [h1, decide_eq_false hi]; rfl, fun hc => ?_⟩
      rw [pv_at hc] at h
      have h2 := Option.some.inj h
      simp only [attr, unw, Att.mk.injEq] at h2
      obtain ⟨a1, a2, a3, a4, a5, a6, a7, a8⟩ := h2
      refine ⟨(atL (forkV l) p).s, (atL (forkV l) p).e, (atL (forkV l) p).o, ?_, fun hf0 => ?_⟩
      · rw [← a1, ← a2, ← a3, ← a4, ← a5, ← a6, ← a7]
      · rw [if_pos hf0, if_pos (by rw [a1]; exact hf0)] at a8
        omega
/-- What an entry that is found is. -/
theorem at_good {l : List Ent} {p : Int} (hl : rightB 0 l = true) (h : fok l p = true) : GoodE (atL l p) ∧ has (atL l p) p := by
  obtain ⟨x, hx, hm, hp⟩ := found_has h
  rw [(pv_mem hl hm hp).2.2]
  exact ⟨goodE_of (rightB_mem hl x hm).1, hp⟩
end Go.Proofs.Ytopglbkcciigbaa
