/- The law of drawn regions, where loads stand beside an append: the loads come first in the order; the append writes none of their blocks. -/
import Derived.Test.YtopfknikmhkaeaaCanonG
namespace Go.Proofs.Ytopfknikmhkaeaa
open Go.RowKit
set_option linter.unusedSimpArgs false
set_option linter.unusedVariables false
section
variable {P : Program} {ops : Array Oper} {K : Act → World → Prop} {anc : Array Nat} {S : World → Prop}
theorem step_good (hb : ancB anc ops = true) (hp : pairsB anc ops = true) {fuel : Nat} {listed : Array Bool} {a : Act} {w : World} (hc : Closed ops listed)
    {G : (Operand → Value) → Oper → Prop} (hG : ∀ ρ ρ' o, (∀ x ∈ o.op.operands, ρ x = ρ' x) → G ρ o → G ρ' o)
    (hK : ∀ a w, K a w → ∀ (i : Nat) (o : Oper), ops[i]? = some o → Region.wanted o (yielded ops a.tmps) = true → G a.eval o) (h : wpAny P .any ops (canonPost K) fuel listed a w) {i : Nat} {oi : Oper} (hi : ops[i]? = some oi) (hr : i ∈ Region.ready .any ops listed)
    (hw : Region.wanted oi (yielded ops a.tmps) = true) : G a.eval oi := by
  obtain ⟨a', w', h1, h2⟩ := wpAny_gives fuel listed a w h
  have e : ∀ t ∈ oi.looksAt ops, a'.tmps[t]? = a.tmps[t]? := fun t ht => h2 t (looks_free hb hp hc hi hr ht)
  exact hG _ _ _ (looks_eval e) (hK _ _ h1 i oi hi (by rw [looks_wanted e]; exact hw))
/-- An operation that may come up may be taken first. -/
theorem wpAny_firstG (hb : ancB anc ops = true) (hp : pairsB anc ops = true) (hs : Region.noSelect ops = true) {G : (Operand → Value) → Oper → Prop} (hG : ∀ ρ ρ' o, (∀ x ∈ o.op.operands, ρ x = ρ' x) → G ρ o → G ρ' o)
    (hK : ∀ a w, K a w → ∀ (i : Nat) (o : Oper), ops[i]? = some o → Region.wanted o (yielded ops a.tmps) = true → G a.eval o) {i : Nat} {oi : Oper} {v : Value} (hi : ops[i]? = some oi) :
    ∀ (fuel : Nat) (listed : Array Bool) (a : Act) (w : World), Closed ops listed →
      (∀ j oj, ops[j]? = some oj → j ≠ i → listed.getD j true = false → waits anc j i = false → ∀ a w, S w → (Region.wanted oj (yielded ops a.tmps) = true → G a.eval oj) →
        ∀ C, wpOp P ops (canonPost K) j C a w → wpOp P ops (canonPost K) j (fun a' w' => S w' ∧ C a' w') a w) →
      i ∈ Region.ready .any ops listed → YieldsIf P ops S oi v a → S w →
      wpAny P .any ops (canonPost K) fuel (listed.setIfInBounds i true) (a.put oi.dst v) w → wpAny P .any ops (canonPost K) (fuel + 1) listed a w := by
  intro fuel
  induction fuel with
  | zero =>
    intro listed a w hc _ hr hy hS H
    refine ⟨fun h => (by rw [h] at hr; cases hr), fun j hj => ?_⟩
    by_cases hji : j = i
    · subst hji; exact hy.wpOp hi hS H
    · have := ready_mono hj hji
      rw [H.1] at this
      cases this
  | succ fuel ih =>
    intro listed a w hc hcls hr hy hS H
    refine ⟨fun h => (by rw [h] at hr; cases hr), fun j hj => ?_⟩
    by_cases hji : j = i
    · subst hji; exact hy.wpOp hi hS H
    · have hjr := ready_mono hj hji
      have h1 := H.2 j hjr
      obtain ⟨hjun, oj, hoj, hall⟩ := mem_ready.1 hj
      have hun := (mem_ready.1 hr).1
      have hil := (Array.getElem?_eq_some_iff.1 hi).1
      have hjl := (Array.getElem?_eq_some_iff.1 hoj).1
      have hwji := not_waits hb hc hil hun hj
      have hwij := not_waits hb hc hjl hjun hr
      have hap := pairs_apart hp hi hoj (Ne.symm hji) hwji hwij
      have hcalm : Region.wanted oj (yielded ops a.tmps) = true → G a.eval oj := fun hw => by
        obtain ⟨h3, _, _⟩ := Oper.apart_spec hap
        have e : ∀ t ∈ oj.looksAt ops, (a.put oi.dst v).tmps[t]? = a.tmps[t]? := fun t ht => put_tmps (fun he => h3 t he ht)
        rw [← looks_wanted e] at hw
        have h4 := step_good hb hp (closed_set hc hr) hG hK H hoj hjr hw
        exact hG _ _ _ (looks_eval e) h4
      have h2 := wpOp_putIf (S := S) hoj hap (fun cs b => Region.noSelect_spec hs i oi cs b hi) (fun cs b => Region.noSelect_spec hs j oj cs b hoj) (fun c a w h => h) hy h1
      have h2' := hcls j oj hoj hji hjun hwji a w hS hcalm _ h2
      refine wpOp_mono (fun a' w' h3 => ih (listed.setIfInBounds j true) a' w' (closed_set hc hj) ?_ (ready_mono hr (Ne.symm hji)) h3.2.1 h3.1 ?_) h2'
      · intro k ok hk hki hku
        refine hcls k ok hk hki ?_
        by_cases hjk : j = k
        · subst hjk; exact hjun
        · rw [getD_set_ne true hjk] at hku; exact hku
      · rw [Array.setIfInBounds_comm _ _ hji]
        exact h3.2.2
/-- Is it an append of one slice to another? -/
def isApp (o : Oper) : Bool := o.guard.isNone && match o.op with
  | .call c => (match c.callee with | .builtin .append => true | _ => false) && c.args.size == 2
  | _ => false
def isLoad (o : Oper) : Bool := o.guard.isNone && match o.op with
  | .load _ _ => true
  | _ => false
/-- Each append takes the slice kv; each load of the list reads a block of qs. -/
def appIs (kv : Value) (ρ : Operand → Value) (o : Oper) : Prop := match o.op with
  | .call c => (match c.callee with
    | .builtin .append => (match c.args[0]? with
      | some s => ρ s = kv
      | none => True)
    | _ => True)
  | _ => True
def loadIn (qs : List Nat) (ρ : Operand → Value) (o : Oper) : Prop := match o.op with
  | .load _ x => (match ρ x with
    | .pointer (some a) => a.block ∈ qs
    | _ => False)
  | _ => True
def preB (kinds : Array Nat) (anc : Array Nat) (ops : Array Oper) (rest : List Nat) : List Nat → Array Bool → Bool
  | [], listed => orderB kinds anc ops rest listed
  | i :: pre, listed =>
    (Region.ready .any ops listed).contains i &&
    (kinds.getD i 3 == 0 ||
      (kinds.getD i 3 == 1 && ((ops[i]?).map isLoad).getD false && (List.range ops.size).all fun j => j == i || listed.getD j true || waits anc j i || decide (kinds.getD j 3 ≤ 2) || ((ops[j]?).map isApp).getD false)) &&
    preB kinds anc ops rest pre (listed.setIfInBounds i true)
def canonSB (P : Program) (ops : Array Oper) (pre rest : List Nat) : Bool :=
  (pre ++ rest).all (fun i => decide (i < ops.size)) && ((pre ++ rest).length == ops.size && Region.noSelect ops && ancB (ancOf ops) ops && pairsB (ancOf ops) ops && preB (ops.map (kind P)) (ancOf ops) ops rest pre (Array.replicate ops.size false))
def goodG (qs : List Nat) (kv : Value) (ρ : Operand → Value) (o : Oper) : Prop := calm ρ o = true ∧ appIs kv ρ o
theorem good_congr {qs : List Nat} {kv : Value} : ∀ (ρ ρ' : Operand → Value) (o : Oper), (∀ x ∈ o.op.operands, ρ x = ρ' x) → goodG qs kv ρ o → goodG qs kv ρ' o := fun ρ ρ' o h hg => by
  refine ⟨by rw [← calm_congr h]; exact hg.1, ?_⟩
  have h2 := hg.2
  obtain ⟨dst, op, type, pos, after, guard⟩ := o
  cases op <;> try exact trivial
  case call c =>
    obtain ⟨callee, args, ts⟩ := c
    cases callee <;> try exact trivial
    case builtin b =>
      cases b <;> try exact trivial
      simp only [appIs] at h2 ⊢
      cases hs : args[0]? with
      | none => trivial
      | some s =>
        rw [hs] at h2
        dsimp only at h2 ⊢
        rw [← h s (by simp [Op.operands, Call.operands]; exact Array.mem_of_getElem? hs)]
        exact h2
theorem loadIn_congr {qs : List Nat} {ρ ρ' : Operand → Value} {o : Oper} (h : ∀ x ∈ o.op.operands, ρ x = ρ' x) (hg : loadIn qs ρ o) : loadIn qs ρ' o := by
  obtain ⟨dst, op, type, pos, after, guard⟩ := o
  cases op <;> try exact trivial
  case load t x =>
    simp only [loadIn] at hg ⊢
    rw [← h x (by simp [Op.operands])]
    exact hg
theorem load_at {w W : World} {t : TypeId} {ad : Addr} {c : Array Value} {e : TypeId} {f : Nat × Nat} (h : ob w ad.block = some (.cells c e f)) (hW : ob W ad.block = ob w ad.block) {v : Value} {w' : World} (hr : (Go.loadVar t ad).run P w = .ok v w') : (Go.loadVar t ad).run P W = .ok v W := by
  have hcell : ∀ i, W.cell? (ad.add i) = w.cell? (ad.add i) := fun i => by
    have hb : (ad.add i).block = ad.block := by unfold Addr.add; split <;> rfl
    exact World.cell?_of_block (w := w) (by rw [hb]; exact hW)
  have hld : ∀ i v w', (Go.load (ad.add i)).run P w = .ok v w' → w' = w ∧ (Go.load (ad.add i)).run P W = .ok v W := fun i v w' hr => by
    have hb : (ad.add i).block = ad.block := by unfold Addr.add; split <;> rfl
    unfold Go.load at hr ⊢
    simp only [Sem.run] at hr ⊢
    rw [hcell i]
    cases hc : w.cell? (ad.add i) with
    | some u => rw [hc] at hr; cases hr; exact ⟨rfl, rfl⟩
    | none =>
      rw [hc] at hr
      have : w.heap[(ad.add i).block]? = some (.cells c e f) := by rw [hb]; exact h
      simp only [World.farLoad, this] at hr
      cases hr
  have hcs : ∀ (n i : Nat) (acc : Array Value) v w', (Go.loadCellsFrom ad i n acc).run P w = .ok v w' → w' = w ∧ (Go.loadCellsFrom ad i n acc).run P W = .ok v W := by
    intro n
    induction n with
    | zero => intro i acc v w' hr; cases hr; exact ⟨rfl, rfl⟩
    | succ n ih =>
      intro i acc v w' hr
      unfold Go.loadCellsFrom at hr ⊢
      rw [Sem.run_bind] at hr ⊢
      obtain ⟨u, w1, h1, h2⟩ := andThen_ok hr
      obtain ⟨rfl, h3⟩ := hld i u w1 h1
      rw [h3]
      exact ih _ _ _ _ h2
  unfold Go.loadVar at hr ⊢
  rw [Sem.run_bind] at hr ⊢
  obtain ⟨b, w1, h1, h2⟩ := andThen_ok hr
  obtain ⟨rfl, h3⟩ := Blank.isAgg (P := P) t w b w1 h1
  rw [h3 W]
  show Sem.run P _ W = _
  cases b with
  | true =>
    simp only [if_true] at h2 ⊢
    rw [Sem.run_bind] at h2 ⊢
    obtain ⟨n, w2, h4, h5⟩ := andThen_ok h2
    obtain ⟨rfl, h6⟩ := Blank.sizeOf (P := P) t w1 n w2 h4
    rw [h6 W]
    show Sem.run P _ W = _
    rw [Sem.run_bind] at h5 ⊢
    obtain ⟨cs, w3, h7, h8⟩ := andThen_ok h5
    obtain ⟨rfl, h9⟩ := hcs n 0 #[] cs w3 h7
    unfold Go.loadCells
    rw [h9]
    cases h8
    rfl
  | false =>
    simp only [Bool.false_eq_true, if_false] at h2 ⊢
    have e0 : ad.add 0 = ad := rfl
    have := hld 0 v w'
    rw [e0] at this
    exact (this h2).2
theorem wpOps_gives : ∀ (order : List Nat) (a : Act) (w : World), wpOps P ops (canonPost K) order a w →
    ∃ a' w', K a' w' ∧ ∀ t, (∀ i ∈ order, ∀ o, ops[i]? = some o → o.dst ≠ some t) → a'.tmps[t]? = a.tmps[t]?
  | [], a, w, h => ⟨a, w, h, fun _ _ => rfl⟩
  | i :: rest, a, w, h => by
    rw [wpOps_cons] at h
    cases ho : ops[i]? with
    | none =>
      unfold wpOp at h
      rw [ho] at h
      obtain ⟨a', w', h1, h2⟩ := wpOps_gives rest a w h
      exact ⟨a', w', h1, fun t ht => h2 t (fun j hj o hjo => ht j (by simp [hj]) o hjo)⟩
    | some o =>
      obtain ⟨a1, w1, h1, h2⟩ := wpOp_gives ho h
      obtain ⟨a', w', h3, h4⟩ := wpOps_gives rest a1 w1 h1
      exact ⟨a', w', h3, fun t ht => by rw [h4 t (fun j hj o hjo => ht j (by simp [hj]) o hjo), h2 t (ht i (by simp) o ho)]⟩
theorem unlisted_of_set {listed : Array Bool} {i k : Nat} (h : (listed.setIfInBounds i true).getD k true = false) : listed.getD k true = false := by
  by_cases hik : i = k
  · subst hik
    rcases Nat.lt_or_ge i listed.size with h' | h'
    · simp [Array.getD_eq_getD_getElem?, h'] at h
    · simp [Array.getD_eq_getD_getElem?, Array.getElem?_eq_none h'] at h
  · rw [getD_set_ne true hik] at h; exact h
theorem order_unlisted {kinds : Array Nat} : ∀ (order : List Nat) (listed : Array Bool), orderB kinds anc ops order listed = true → ∀ k ∈ order, listed.getD k true = false
  | [], _, _, k, hk => by simp at hk
  | i :: rest, listed, h, k, hk => by
    simp only [orderB, Bool.and_eq_true] at h
    rcases List.mem_cons.1 hk with rfl | hk
    · exact (mem_ready.1 (by simpa using h.1.1)).1
    · exact unlisted_of_set (order_unlisted rest _ h.2 k hk)
theorem pre_unlisted {kinds : Array Nat} {rest : List Nat} : ∀ (pre : List Nat) (listed : Array Bool), preB kinds anc ops rest pre listed = true → ∀ k ∈ pre ++ rest, listed.getD k true = false
  | [], listed, h, k, hk => order_unlisted rest listed h k (by simpa using hk)
  | i :: pre, listed, h, k, hk => by
    simp only [preB, Bool.and_eq_true] at h
    rcases List.mem_cons.1 hk with rfl | hk
    · exact (mem_ready.1 (by simpa using h.1.1)).1
    · exact unlisted_of_set (pre_unlisted pre _ h.2 k hk)
theorem run_isApp {o : Oper} (h : isApp o = true) : o.guard = none ∧ ∃ s x ts, o.op = .call { callee := .builtin .append, args := #[s, x], argTypes := ts } := by
  obtain ⟨dst, op, type, pos, after, guard⟩ := o
  simp only [isApp, Bool.and_eq_true, Option.isNone_iff_eq_none] at h
  refine ⟨h.1, ?_⟩
  have h2 := h.2
  cases op <;> try (simp at h2; done)
  case call c =>
    obtain ⟨callee, args, ts⟩ := c
    cases callee <;> try (simp at h2; done)
    case builtin b =>
      cases b <;> try (simp at h2; done)
      simp at h2
      obtain ⟨l⟩ := args
      match l, h2 with
      | [s, x], _ => exact ⟨s, x, ts, rfl⟩
theorem exec_app {o : Oper} {ρ : Operand → Value} {qs : List Nat} {kv : Value} {w0 : World} (h : isApp o = true) (hk : appIs kv ρ o) (hq : ∀ q ∈ qs, ∃ o, ob w0 q = some o)
    (hkv : ∃ ao n cap, kv = .slice ao n cap ∧ ∀ a, ao = some a → a.spot = none) (hg : ∀ g, kv.ownBlock = some g → g ∉ qs) :
    KeepsI P (SS qs kv w0) (execOp ρ o) ∧ ValOnly P (execOp ρ o) := by
  obtain ⟨_, s, x, ts, ho⟩ := run_isApp h
  obtain ⟨dst, op, type, pos, after, guard⟩ := o
  dsimp only at ho
  subst ho
  have hs : ρ s = kv := by simpa [appIs] using hk
  have e : execOp ρ { dst, op := .call { callee := .builtin .append, args := #[s, x], argTypes := ts }, type, pos, after, guard } = (Builtin.append_ ts type #[kv, ρ x] >>= fun v => Pure.pure (Next.value v)) := by
    rw [← hs]
    unfold execOp
    simp only [resolve, List.map_toArray, List.map_cons, List.map_nil]
    rfl
  rw [e]
  exact ⟨KeepsI.bind (SS.append hq hg hkv _ _ _) fun _ => KeepsI.blank (Blank.pure _), ValOnly.v _⟩
theorem canon_pre (hb : ancB anc ops = true) (hp : pairsB anc ops = true) (hs : Region.noSelect ops = true) {qs : List Nat} {kv : Value} {rest pre0 : List Nat}
    (hK : ∀ a w, K a w → calmAll ops a = true ∧ (∀ (i : Nat) (o : Oper), ops[i]? = some o → appIs kv a.eval o) ∧ ∀ (i : Nat) (o : Oper), i ∈ pre0 → ops[i]? = some o → loadIn qs a.eval o)
    {w : World} (hq : ∀ q ∈ qs, ∃ c e f, ob w q = some (.cells c e f)) (hkv : ∃ ao n cap, kv = .slice ao n cap ∧ ∀ a, ao = some a → a.spot = none) (hgq : ∀ g, kv.ownBlock = some g → g ∉ qs ∧ ∃ row e, ob w g = some (.cells row e (0, 0))) :
    ∀ (pre : List Nat) (listed : Array Bool) (a : Act), (∀ i ∈ pre, i ∈ pre0) → Closed ops listed → preB (ops.map (kind P)) anc ops rest pre listed = true →
      wpOps P ops (canonPost K) (pre ++ rest) a w → wpAny P .any ops (canonPost K) (pre.length + rest.length) listed a w
  | [], listed, a, _, hc, hpre, h => by
    simp only [preB] at hpre
    simp only [List.length_nil, Nat.zero_add]
    exact canon_sound hb hp hs (fun a w h => (hK a w h).1) rest listed a w hc hpre (by simpa using h)
  | i :: pre, listed, a, hin, hc, hpre, h => by
    simp only [preB, Bool.and_eq_true, Bool.or_eq_true, beq_iff_eq] at hpre
    obtain ⟨⟨hr0, hcase⟩, hrest⟩ := hpre
    have hr : i ∈ Region.ready .any ops listed := by simpa using hr0
    obtain ⟨hun, oi, hi, hall⟩ := mem_ready.1 hr
    have hil := (Array.getElem?_eq_some_iff.1 hi).1
    have IH : ∀ a', wpOps P ops (canonPost K) (pre ++ rest) a' w → wpAny P .any ops (canonPost K) (pre.length + rest.length) (listed.setIfInBounds i true) a' w :=
      fun a' h' => canon_pre hb hp hs hK hq hkv hgq pre _ a' (fun j hj => hin j (by simp [hj])) (closed_set hc hr) hrest h'
    rw [List.cons_append, wpOps_cons] at h
    rw [List.length_cons, show pre.length + 1 + rest.length = (pre.length + rest.length) + 1 by omega]
    have hG : ∀ a w, K a w → ∀ (i : Nat) (o : Oper), ops[i]? = some o → Region.wanted o (yielded ops a.tmps) = true → goodG qs kv a.eval o := fun a w hk i o hio hw =>
      ⟨calm_of_all hio (hK a w hk).1 (fun t _ => rfl) hw, (hK a w hk).2.1 i o hio⟩
    -- the operation at hand: it yields v here, and the rest comes to its post
    have hcalm : Region.wanted oi (yielded ops a.tmps) = true → goodG qs kv a.eval oi ∧ loadIn qs a.eval oi := fun hw => by
      have hfree : ∀ t ∈ oi.looksAt ops, ∀ k ∈ i :: (pre ++ rest), ∀ o, ops[k]? = some o → o.dst ≠ some t := fun t ht k hk o hko =>
        looks_free hb hp hc hi hr ht k o hko (by
          have := pre_unlisted (kinds := ops.map (kind P)) (i :: pre) listed (by simp only [preB, Bool.and_eq_true, Bool.or_eq_true, beq_iff_eq]; exact ⟨⟨hr0, hcase⟩, hrest⟩) k (by simpa using hk)
          exact this)
      have h0 : wpOps P ops (canonPost K) (i :: (pre ++ rest)) a w := by rw [wpOps_cons]; exact h
      obtain ⟨a', w', h1, h2⟩ := wpOps_gives _ a w h0
      have e : ∀ t ∈ oi.looksAt ops, a'.tmps[t]? = a.tmps[t]? := fun t ht => h2 t (fun k hk o hko => hfree t ht k hk o hko)
      exact ⟨good_congr _ _ _ (looks_eval e) (hG a' w' h1 i oi hi (by rw [looks_wanted e]; exact hw)), loadIn_congr (looks_eval e) ((hK a' w' h1).2.2 i oi (hin i (by simp)) hi)⟩
    have hsq : ∀ q ∈ qs, ∃ o, ob w q = some o := fun q hq' => let ⟨c, e, f, h⟩ := hq q hq'; ⟨_, h⟩
    unfold wpOp at h
    simp only [hi] at h
    rcases hcase with hk | ⟨⟨hk, hld⟩, hoth⟩
    · rw [kinds_getD hi] at hk
      have hv : ∃ v, YieldsIf P ops (fun _ => True) oi v a ∧ wpAny P .any ops (canonPost K) (pre.length + rest.length) (listed.setIfInBounds i true) (a.put oi.dst v) w := by
        split at h
        · rename_i hw
          rcases h with h | ⟨_, _, _, h⟩
          · unfold Oper.wp at h
            obtain ⟨hbl, hvo⟩ := exec_blank hk (hcalm hw).1.1
            cases hrun : (execOp a.eval oi).run P w with
            | ok n w' =>
              obtain ⟨v, rfl⟩ := hvo _ _ _ hrun
              obtain ⟨rfl, hW⟩ := hbl _ _ _ hrun
              rw [hrun] at h
              exact ⟨v, .inl ⟨hw, fun W _ => hW W⟩, IH _ h⟩
            | halt x w' =>
              rw [hrun] at h
              cases x <;> simp only [Oper.upon] at h
              exact h.elim
          · exact h.elim
        · rename_i hw
          exact ⟨undef, .inr ⟨by simpa using hw, rfl⟩, IH _ h⟩
      obtain ⟨v, hy, H⟩ := hv
      exact wpAny_firstG (G := goodG qs kv) hb hp hs good_congr hG hi _ listed a w hc (fun j oj hj hne hu hwt a w _ _ C hC => wpOp_mono (fun _ _ h => ⟨trivial, h⟩) hC) hr hy trivial H
    · rw [kinds_getD hi] at hk
      have hgd : oi.guard = none ∧ ∃ t x, oi.op = .load t x := by
        rw [hi] at hld
        simp only [Option.map_some, Option.getD_some, isLoad, Bool.and_eq_true, Option.isNone_iff_eq_none] at hld
        refine ⟨hld.1, ?_⟩
        have h2 := hld.2
        cases ho : oi.op <;> rw [ho] at h2 <;> first | (simp at h2; done) | exact ⟨_, _, rfl⟩
      obtain ⟨hg0, t, x, ho⟩ := hgd
      have hw : Region.wanted oi (yielded ops a.tmps) = true := by simp [Region.wanted, hg0]
      rw [if_pos hw] at h
      have hli := (hcalm hw).2
      simp only [loadIn, ho] at hli
      have hv : ∃ v, YieldsIf P ops (SS qs kv w) oi v a ∧ wpAny P .any ops (canonPost K) (pre.length + rest.length) (listed.setIfInBounds i true) (a.put oi.dst v) w := by
        rcases h with h | ⟨_, _, _, h⟩
        · unfold Oper.wp at h
          obtain ⟨hbl, hvo⟩ := exec_stable (P := P) (ρ := a.eval) hk
          cases hrun : (execOp a.eval oi).run P w with
          | ok n w' =>
            obtain ⟨v, rfl⟩ := hvo _ _ _ hrun
            obtain ⟨rfl, hW⟩ := hbl _ _ _ hrun
            rw [hrun] at h
            refine ⟨v, .inl ⟨hw, fun W hS => ?_⟩, IH _ h⟩
            cases hx : a.eval x <;> rw [hx] at hli <;> try (simp at hli; done)
            rename_i ad
            cases ad with
            | none => simp at hli
            | some ad =>
              dsimp only at hli
              obtain ⟨c, e, f, hob⟩ := hq ad.block hli
              have ee : ∀ W, (execOp a.eval oi).run P W = ((Go.loadVar t ad) >>= fun v => Pure.pure (Next.value v)).run P W := fun W => by
                unfold execOp
                simp only [ho, hx]
                rfl
              rw [ee, Sem.run_bind] at hrun ⊢
              obtain ⟨v1, w1, h1, h2⟩ := andThen_ok hrun
              rw [load_at hob (hS.1 _ hli) h1]
              cases h2
              rfl
          | halt x w' =>
            rw [hrun] at h
            cases x <;> simp only [Oper.upon] at h
            exact h.elim
        · exact h.elim
      obtain ⟨v, hy, H⟩ := hv
      refine wpAny_firstG (G := goodG qs kv) (S := SS qs kv w) hb hp hs good_congr hG hi _ listed a w hc (fun j oj hj hne hu hwt a1 w1 hS1 hgood C hC => ?_) hr hy ⟨fun _ _ => rfl, fun g hg => (hgq g hg).2⟩ H
      have hjl := (Array.getElem?_eq_some_iff.1 hj).1
      have hkj := (List.all_eq_true.1 hoth) j (List.mem_range.2 hjl)
      simp only [Bool.or_eq_true, beq_iff_eq, hne, hu, hwt, Bool.false_eq_true, false_or, decide_eq_true_eq, hj, Option.map_some, Option.getD_some] at hkj
      rw [kinds_getD hj] at hkj
      refine wpOp_and (S := SS qs kv w) hj hS1 (fun hw n w' hrun => ?_) (fun _ _ h => h) (fun _ _ _ h => h) hC
      rcases hkj with hk2 | happ
      · rcases (by omega : kind P oj = 0 ∨ kind P oj = 1 ∨ kind P oj = 2) with h0 | h0 | h0
        · obtain ⟨hbl, hvo⟩ := exec_blank h0 (hgood hw).1
          exact ⟨hvo _ _ _ hrun, by rw [(hbl _ _ _ hrun).1]; exact hS1⟩
        · obtain ⟨hbl, hvo⟩ := exec_stable (P := P) (ρ := a1.eval) h0
          exact ⟨hvo _ _ _ hrun, by rw [(hbl _ _ _ hrun).1]; exact hS1⟩
        · obtain ⟨hbl, hvo⟩ := exec_grows (P := P) (ρ := a1.eval) h0
          exact ⟨hvo _ _ _ hrun, SS.ext hsq _ _ hS1 (hbl _ _ _ hrun)⟩
      · obtain ⟨hke, hvo⟩ := exec_app (P := P) (w0 := w) happ (hgood hw).2 hsq hkv (fun g hg => (hgq g hg).1)
        exact ⟨hvo _ _ _ hrun, hke _ _ _ hS1 hrun⟩
/-- **THE LAW**, loads beside an append: pre comes first; the blocks that its loads read are qs; the appends' slice is kv. -/
theorem wp_region_canonS {l : List Oper} {Q : Exit → Act → World → Prop} {a : Act} {w : World} {id : Nat} (qs : List Nat) (kv : Value) (pre rest : List Nat) (hm : P.follows .mixedOrders = true) (hchk : canonSB P l.toArray pre rest = true)
    (hq : ∀ q ∈ qs, ∃ c e f, ob w q = some (.cells c e f)) (hkv : ∃ ao n cap, kv = .slice ao n cap ∧ ∀ a, ao = some a → a.spot = none) (hgq : ∀ g, kv.ownBlock = some g → g ∉ qs ∧ ∃ row e, ob w g = some (.cells row e (0, 0)))
    (h : ∀ K : Act → World → Prop, (∀ a w, calmAll l.toArray a = true → (∀ o ∈ l, appIs kv a.eval o) → (∀ i ∈ pre, loadIn qs a.eval (l.getD i default)) → Q .normal a w → K a w) → wpList P l.toArray (canonPost K) ((pre ++ rest).map (l.getD · default)) a w.drew) :
    (Code.region id l.toArray true).wp P Q a w := by
  simp only [canonSB, Bool.and_eq_true, beq_iff_eq] at hchk
  obtain ⟨hin, ⟨⟨⟨h0, h1⟩, h2⟩, h3⟩, h4⟩ := hchk
  have hl := wpOps_list (pre ++ rest) a w.drew (fun i hi => by simpa using (List.all_eq_true.1 hin) i hi)
    (h (fun a w => (calmAll l.toArray a = true ∧ (∀ o ∈ l, appIs kv a.eval o) ∧ ∀ i ∈ pre, loadIn qs a.eval (l.getD i default)) ∧ Q .normal a w) (fun a w x y z q => ⟨⟨x, y, z⟩, q⟩))
  have hc : Closed l.toArray (Array.replicate l.toArray.size false) := fun k o ho hk => by
    have hlt := (Array.getElem?_eq_some_iff.1 ho).1
    exfalso
    rw [Array.getD_eq_getD_getElem?, Array.getElem?_replicate, if_pos hlt] at hk
    cases hk
  have hs := canon_pre (P := P) (pre0 := pre) (rest := rest) (qs := qs) (kv := kv) (w := w.drew) h2 h3 h1 (fun a w h => ⟨h.1.1, fun i o ho => h.1.2.1 o (by
      have := Array.mem_of_getElem? ho
      simpa using this), fun i o hi ho => by
      have h5 := h.1.2.2 i hi
      have : l.getD i default = o := by simp at ho; simp [List.getD_eq_getElem?_getD, ho]
      rw [this] at h5
      exact h5⟩) hq hkv hgq pre _ a (fun _ h => h) hc h4 hl
  rw [← List.length_append, h0] at hs
  refine Code.wp_mono (fun e a w hq => ?_) (wp_region_any hm hs)
  cases e <;> first | exact hq.2 | exact hq.elim
end
#print axioms wp_region_canonS
end Go.Proofs.Ytopfknikmhkaeaa
