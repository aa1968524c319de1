/- entry.Good and entry.Right. Conditions: numbers that are int's, bounds on lengths. -/
import Derived.Test.YtopglbkcciigbaaEnRight
import Derived.Test.YtopglbkcciigbaaEnLeaf
namespace Go.Proofs.Ytopglbkcciigbaa
open Go.RowKit
set_option linter.unusedSimpArgs false
set_option linter.unusedVariables false
theorem wf_i64 {x : Int} (h : (Lit.int .i64 x).wf = true) : -9223372036854775808 ≤ x ∧ x < 9223372036854775808 := by
  have h1 : IntKind.i64.min = -9223372036854775808 := by decide
  have h2 : IntKind.i64.max = 9223372036854775807 := by decide
  simp [Lit.wf] at h
  omega
theorem small_bits : ∀ a b : Fin 8, bits .and .i64 (a.val : Int) (b.val : Int) = (a.val : Int) → bits .andNot .i64 (a.val : Int) (b.val : Int) = 0 := by decide +kernel
theorem andNot_zero {x m : Int} (hx : -9223372036854775808 ≤ x ∧ x < 9223372036854775808) (h0 : 0 ≤ m) (h7 : m ≤ 7) : bits .andNot .i64 x m = 0 ↔ 0 ≤ x ∧ x ≤ 7 ∧ bits .and .i64 x m = x := by
  constructor
  · intro h
    have h1 : IntKind.i64.wrap ((BitVec.ofInt 64 x &&& ~~~BitVec.ofInt 64 m).toNat : Int) = 0 := h
    obtain ⟨X, hX⟩ : ∃ X, X = BitVec.ofInt 64 x := ⟨_, rfl⟩
    obtain ⟨M, hM⟩ : ∃ M, M = BitVec.ofInt 64 m := ⟨_, rfl⟩
    rw [← hX, ← hM] at h1
    have hlt := (X &&& ~~~M).isLt
    rw [IntKind.wrap_i64] at h1
    have hz : (X &&& ~~~M).toNat = 0 := by omega
    have hz2 : X &&& ~~~M = 0#64 := BitVec.eq_of_toNat_eq (by simpa using hz)
    have hXM : X &&& M = X := by
      have : X = (X &&& M) ||| (X &&& ~~~M) := by
        rw [← BitVec.and_or_distrib_left, show M ||| ~~~M = BitVec.allOnes 64 from by ext i hi; simp, BitVec.and_allOnes]
      rw [hz2] at this
      simpa using this.symm
    have hMn : M.toNat = m.toNat := by
      rw [hM, BitVec.toNat_ofInt]
      omega
    have hle : X.toNat ≤ 7 := by
      have h2 : (X &&& M).toNat ≤ M.toNat := by rw [BitVec.toNat_and]; exact Nat.and_le_right
      rw [hXM] at h2
      omega
    have hXn : (X.toNat : Int) = x % 18446744073709551616 := by
      rw [hX, BitVec.toNat_ofInt]
      omega
    have hx0 : 0 ≤ x ∧ x ≤ 7 := by omega
    refine ⟨hx0.1, hx0.2, ?_⟩
    show IntKind.i64.wrap ((BitVec.ofInt 64 x &&& BitVec.ofInt 64 m).toNat : Int) = x
    rw [← hX, ← hM, hXM, IntKind.wrap_i64]
    omega
  · rintro ⟨h1, h2, h3⟩
    obtain ⟨a, rfl⟩ := Int.eq_ofNat_of_zero_le h1
    obtain ⟨b, rfl⟩ := Int.eq_ofNat_of_zero_le h0
    exact small_bits ⟨a, by omega⟩ ⟨b, by omega⟩ h3
theorem and_seven : ∀ a : Fin 8, bits .and .i64 (a.val : Int) 7 = (a.val : Int) := by decide +kernel
def e1 (x : Ent) : Bool := decide (x.s < 0) || (decide (x.e ≤ x.s) || decide (67108864 < x.e))
def e2 (x : Ent) : Bool := decide (x.f < 0) || (decide (x.o < 0) || (decide (x.f = 0) && decide (0 < x.o)))
def e3 (x : Ent) : Bool := decide (0 < x.f) && decide (4096 - (x.e - x.s) < x.o)
def e4 (x : Ent) : Bool := !decide (bits .andNot .i64 x.mx 7 = 0) || !decide (bits .andNot .i64 x.pr x.mx = 0)
def e5 (x : Ent) : Bool := decide (0 ≤ x.inh) && (decide (x.inh ≤ 2) && (decide (0 ≤ x.adv) && decide (x.adv ≤ 4)))
theorem goodB_e {x : Ent} (h : WfE x) : goodB x = (!e1 x && !e2 x && !e3 x && !e4 x && e5 x) := by
  rw [Bool.eq_iff_iff, goodB_iff]
  have hm := wf_i64 h.mx
  have hp := wf_i64 h.pr
  have m7 := andNot_zero hm (m := 7) (by omega) (by omega)
  simp only [e1, e2, e3, e4, e5, Bool.and_eq_true, Bool.not_eq_true', Bool.or_eq_false_iff, Bool.and_eq_false_iff, decide_eq_true_eq, decide_eq_false_iff_not, Bool.not_eq_false', permB]
  constructor
  · rintro ⟨⟨a1, a2, a3, a4, a5⟩, ⟨b1, b2, b3, b4, b5, b6, b7, b8, b9⟩, c1, c2⟩
    have hm0 : bits .andNot .i64 x.mx 7 = 0 := m7.2 ⟨b3, b4, by
      obtain ⟨a, ha⟩ := Int.eq_ofNat_of_zero_le b3
      rw [ha]; exact and_seven ⟨a, by omega⟩⟩
    have hp0 := (andNot_zero hp b3 b4).2 ⟨b1, b2, b5⟩
    refine ⟨⟨⟨⟨⟨by omega, by omega, by omega⟩, by omega, by omega, ?_⟩, ?_⟩, hm0, hp0⟩, b6, b7, b8, b9⟩
    · by_cases hf : x.f = 0
      · right; have := c1 hf; omega
      · left; exact hf
    · by_cases hf : x.f = 0
      · left; omega
      · right; have := c2 hf; omega
  · rintro ⟨⟨⟨⟨⟨a1, a2, a3⟩, a4, a5, a6⟩, a7⟩, hm0, hp0⟩, b6, b7, b8, b9⟩
    obtain ⟨b3, b4, _⟩ := m7.1 hm0
    obtain ⟨b1, b2, b5⟩ := (andNot_zero hp b3 b4).1 hp0
    refine ⟨⟨by omega, by omega, by omega, by omega, by omega⟩, ⟨b1, b2, b3, b4, b5, b6, b7, b8, b9⟩, fun hf => ?_, fun hf => ?_⟩
    · rcases a6 with a6 | a6
      · exact absurd hf a6
      · omega
    · rcases a7 with a7 | a7
      · omega
      · omega
set_option maxRecDepth 100000 in
set_option maxHeartbeats 4000000 in
theorem good_any (x : Ent) (hw : WfE x) (w : World) : Calls Try.prog 37 #[.agg #[.int .i64 x.s, .int .i64 x.e, .int .i64 x.f, .int .i64 x.o, .bool x.sh, .int .i64 x.pr, .int .i64 x.mx, .int .i64 x.inh, .int .i64 x.adv, .bool x.wi]] w fun e w' => e = .returned (.bool (goodB x)) ∧ Fr (fun _ => False) w w' := by
  rw [goodB_e hw]
  obtain ⟨gb, hgb⟩ : ∃ gb, gb = (!e1 x && !e2 x && !e3 x && !e4 x && e5 x) := ⟨_, rfl⟩
  rw [← hgb]
  have HG := Lib.hid hgb
  clear hgb
  go_enter Try.func37, Try.ntmps37
  go_upto_region 1 with fail
  go_cut [3] (fun s wc => s = .bool (e1 x) ∧ wc = w.alloc (.cells #[.int .i64 x.s, .int .i64 x.e, .int .i64 x.f, .int .i64 x.o, .bool x.sh, .int .i64 x.pr, .int .i64 x.mx, .int .i64 x.inh, .int .i64 x.adv, .bool x.wi] 28))
  case first =>
    by_cases h0 : x.s < 0
    · go_wp2
      go_meet
      exact ⟨by simp [e1, h0], rfl⟩
    by_cases h1 : x.e ≤ x.s
    · go_wp2
      go_meet
      exact ⟨by simp [e1, h0, h1], rfl⟩
    go_wp2
    go_meet
    exact ⟨by have q0 : ¬ x.s < 0 := by omega
              have q1 : ¬ x.e ≤ x.s := by omega
              simp [e1, q0, q1], rfl⟩
  case rest =>
  obtain ⟨rfl, rfl⟩ := hcut
  cases hb1 : e1 x
  case true =>
    rw [hb1] at HG
    obtain rfl : gb = false := by have := HG.out; simpa using this
    go_wp2
    go_ret
    exact ⟨rfl, (Fr.refl _ _).alloc _⟩
  case false =>
  have hs : 0 ≤ x.s ∧ x.s < x.e ∧ x.e ≤ 67108864 := by
    simp [e1] at hb1
    omega
  obtain ⟨k0, k1, k2⟩ := hs
  rw [hb1] at HG
  clear hb1
  go_upto_region 3 with fail
  go_cut [19] (fun s wc => s = .bool (e2 x) ∧ wc = w.alloc (.cells #[.int .i64 x.s, .int .i64 x.e, .int .i64 x.f, .int .i64 x.o, .bool x.sh, .int .i64 x.pr, .int .i64 x.mx, .int .i64 x.inh, .int .i64 x.adv, .bool x.wi] 28))
  case first =>
    by_cases h0 : x.f < 0
    · go_wp2
      go_meet
      exact ⟨by simp [e2, h0], rfl⟩
    by_cases h1 : x.o < 0
    · go_wp2
      go_meet
      exact ⟨by simp [e2, h0, h1], rfl⟩
    by_cases h2 : x.f = 0
    · have h2b : (x.f == 0) = true := by simp [h2]
      have q0 : ¬ x.f < 0 := by omega
      have q1 : ¬ x.o < 0 := by omega
      have H2 := Lib.hid h2
      have Q0 := Lib.hid q0
      have Q1 := Lib.hid q1
      clear h2
      go_wp2
      go_meet
      exact ⟨by have q2 := H2.out
                have q0 := Q0.out
                have q1 := Q1.out
                simp [e2, q2, q1] <;> omega, rfl⟩
    · have h2b : (x.f == 0) = false := by simp [h2]
      have H2 := Lib.hid h2
      clear h2
      go_wp2
      go_meet
      exact ⟨by have q0 : ¬ x.f < 0 := by omega
                have q1 : ¬ x.o < 0 := by omega
                simp [e2, q0, q1, H2.out], rfl⟩
  case rest =>
  obtain ⟨rfl, rfl⟩ := hcut
  cases hb2 : e2 x
  case true =>
    rw [hb2] at HG
    obtain rfl : gb = false := by have := HG.out; simpa using this
    go_wp2
    go_ret
    exact ⟨rfl, (Fr.refl _ _).alloc _⟩
  case false =>
  rw [hb2] at HG
  clear hb2
  go_upto_region 5 with fail
  go_cut [38] (fun s wc => s = .bool (e3 x) ∧ wc = w.alloc (.cells #[.int .i64 x.s, .int .i64 x.e, .int .i64 x.f, .int .i64 x.o, .bool x.sh, .int .i64 x.pr, .int .i64 x.mx, .int .i64 x.inh, .int .i64 x.adv, .bool x.wi] 28))
  case first =>
    by_cases h0 : 0 < x.f
    · go_wp2
      go_meet
      exact ⟨by simp [e3, h0], rfl⟩
    · go_wp2
      go_meet
      exact ⟨by have q0 : ¬ 0 < x.f := by omega
                simp [e3, q0], rfl⟩
  case rest =>
  obtain ⟨rfl, rfl⟩ := hcut
  cases hb3 : e3 x
  case true =>
    rw [hb3] at HG
    obtain rfl : gb = false := by have := HG.out; simpa using this
    go_wp2
    go_ret
    exact ⟨rfl, (Fr.refl _ _).alloc _⟩
  case false =>
  rw [hb3] at HG
  clear hb3
  go_upto_region 7 with fail
  go_cut [53] (fun s wc => s = .bool (e4 x) ∧ wc = w.alloc (.cells #[.int .i64 x.s, .int .i64 x.e, .int .i64 x.f, .int .i64 x.o, .bool x.sh, .int .i64 x.pr, .int .i64 x.mx, .int .i64 x.inh, .int .i64 x.adv, .bool x.wi] 28))
  case first =>
    obtain ⟨A, hA⟩ : ∃ A, A = bits .andNot .i64 x.mx 7 := ⟨_, rfl⟩
    obtain ⟨B, hB⟩ : ∃ B, B = bits .andNot .i64 x.pr x.mx := ⟨_, rfl⟩
    have he : e4 x = (!decide (A = 0) || !decide (B = 0)) := by unfold e4; rw [hA, hB]
    by_cases h0 : bits .andNot .i64 x.mx 7 = 0
    · go_wp2
      go_meet
      refine ⟨?_, rfl⟩
      have hA0 : A = 0 := hA.trans h0
      rw [he, hA0, ← hB]
      by_cases q : B = 0 <;> simp [q]
    · have h0b : (bits .andNot .i64 x.mx 7 != 0) = true := by simp [h0]
      have H0 := Lib.hid h0
      clear h0
      go_wp2
      go_meet
      refine ⟨?_, rfl⟩
      have hA0 : ¬ A = 0 := by rw [hA]; exact H0.out
      rw [he]
      simp [hA0]
  case rest =>
  obtain ⟨rfl, rfl⟩ := hcut
  cases hb4 : e4 x
  case true =>
    rw [hb4] at HG
    obtain rfl : gb = false := by have := HG.out; simpa using this
    go_wp2
    go_ret
    exact ⟨rfl, (Fr.refl _ _).alloc _⟩
  case false =>
  rw [hb4] at HG
  clear hb4
  have hgb5 : gb = e5 x := by have := HG.out; simpa using this
  have HG5 := Lib.hid hgb5
  clear hgb5 HG
  by_cases h0 : x.inh < 0
  · obtain rfl : gb = false := by rw [HG5.out]; have q : ¬ 0 ≤ x.inh := by omega
                                  simp [e5, q]
    go_wp2
    go_ret
    exact ⟨rfl, (Fr.refl _ _).alloc _⟩
  have p0 : 0 ≤ x.inh := by omega
  by_cases h1 : 2 < x.inh
  · obtain rfl : gb = false := by rw [HG5.out]; have q : ¬ x.inh ≤ 2 := by omega
                                  simp [e5, q]
    go_wp2
    go_ret
    exact ⟨rfl, (Fr.refl _ _).alloc _⟩
  have p1 : x.inh ≤ 2 := by omega
  by_cases h2 : x.adv < 0
  · obtain rfl : gb = false := by rw [HG5.out]; have q : ¬ 0 ≤ x.adv := by omega
                                  simp [e5, q]
    go_wp2
    go_ret
    exact ⟨rfl, (Fr.refl _ _).alloc _⟩
  have p2 : 0 ≤ x.adv := by omega
  obtain rfl : gb = decide (x.adv ≤ 4) := by rw [HG5.out]; simp [e5, p0, p1, p2]
  go_wp2
  go_ret
  exact ⟨rfl, (Fr.refl _ _).alloc _⟩
set_option maxRecDepth 100000 in
set_option maxHeartbeats 4000000 in
theorem eright_any {w : World} {A : Option Addr} {N C : Nat} {l : List Ent} (h : Rd w 10 (.slice A N C) (l.flatMap ent)) (hl : l.length ≤ 1000) (hw : ∀ x ∈ l, WfE x) :
    Calls Try.prog 21 #[.slice A N C] w fun e w' => e = .returned (.bool (rightB 0 l)) ∧ Fr (fun _ => False) w w' := by
  have hN : N = l.length := h.elen
  have hN5 : N ≤ 1000 := by omega
  have HN := Lib.hid hN
  obtain ⟨r, hr⟩ : ∃ r, r = rightB 0 l := ⟨_, rfl⟩
  rw [← hr]
  have hr0 : r = rightB 0 (l.drop 0) := hr
  have HW := Lib.hid hw
  clear hN hl hr hw
  go_enter Try.func21, Try.ntmps21
  go_wp2_with fail
  go_loopw [3, 8] (fun s v wr => ∃ (i : Nat) (a : Int), i ≤ N ∧ v = .int .i64 i ∧ s = .int .i64 a ∧ Hid (r = rightB a (l.drop i)) ∧ Fr (fun _ => False) w wr) (fun _ v _ => N - (intOf v).toNat)
  case atStart => exact ⟨0, 0, by omega, rfl, rfl, Lib.hid hr0, Fr.refl _ _⟩
  case round =>
    obtain ⟨i, a, hi, rfl, rfl, HR, hf⟩ := hrel
    clear hr0
    by_cases hlt : i < N
    · obtain ⟨x, hx⟩ : ∃ x, l[i]? = some x := ⟨_, List.getElem?_eq_getElem (by have := HN.out; omega)⟩
      obtain ⟨g, off, n', cap', heq, hgl, -, c0, c1, c2, c3, c4, c5, c6, c7, c8, c9⟩ := (h.of hf (fun _ h => h.elim)).entry hx
      cases heq
      have HST := Lib.hid (HR.out.trans (rightB_step hx))
      have HWX := Lib.hid (HW.out x (List.mem_of_getElem? hx))
      clear hx
      have key : ∀ w3, Fr (fun _ => False) (wr.alloc (.cells #[.int .i64 x.s, .int .i64 x.e, .int .i64 x.f, .int .i64 x.o, .bool x.sh, .int .i64 x.pr, .int .i64 x.mx, .int .i64 x.inh, .int .i64 x.adv, .bool x.wi] 28)) w3 → At10 w3 wr.heap.size 0 x ∧ wr.heap.size < w3.heap.size ∧ Fr (fun _ => False) w w3 := fun w3 hf3 => by
        have o3 : ob w3 wr.heap.size = some (.cells #[.int .i64 x.s, .int .i64 x.e, .int .i64 x.f, .int .i64 x.o, .bool x.sh, .int .i64 x.pr, .int .i64 x.mx, .int .i64 x.inh, .int .i64 x.adv, .bool x.wi] 28 (0, 0)) := hf3.keep (fun h => h) (ob_new wr _)
        exact ⟨⟨cell_of_ob o3 0, cell_of_ob o3 1, cell_of_ob o3 2, cell_of_ob o3 3, cell_of_ob o3 4, cell_of_ob o3 5, cell_of_ob o3 6, cell_of_ob o3 7, cell_of_ob o3 8, cell_of_ob o3 9⟩, ob_lt o3, (hf.alloc _).also hf3⟩
      have KEY := Lib.hid key
      clear key
      go_wp2_with fail
      refine (good_any x HWX.out _).mono ?_
      rintro e w3 ⟨rfl, hf3⟩
      obtain ⟨⟨e0, e1, -⟩, hb3, hf4⟩ := KEY.out w3 hf3
      simp only [Nat.zero_add] at e1
      clear hf3
      cases hgx : goodB x with
      | false =>
        obtain rfl : r = false := by have := HST.out; rw [hgx] at this; simpa using this
        clear e0 e1
        go_wp2
        go_ret
        exact ⟨rfl, hf4⟩
      | true =>
        rw [hgx] at HST
        by_cases hlty : x.s < a
        · obtain rfl : r = false := by have := HST.out; rw [decide_eq_false (by omega)] at this; simpa using this
          go_wp2
          go_ret
          exact ⟨rfl, hf4⟩
        · go_wp2
          go_roundw
          case rel =>
            refine ⟨i + 1, x.e, by omega, by go_num, rfl, Lib.hid ?_, hf4⟩
            have h1 := HST.out
            rw [decide_eq_true (by omega : a ≤ x.s)] at h1
            rw [h1]; simp
          case measure => simp [intOf]; omega
    · obtain rfl : i = N := by omega
      obtain rfl : r = true := by
        have := HR.out
        rw [List.drop_of_length_le (by rw [← HN.out]; exact Nat.le_refl _)] at this
        exact this
      go_wp2
      go_ret
      exact ⟨rfl, hf⟩
end Go.Proofs.Ytopglbkcciigbaa
