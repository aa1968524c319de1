/- ring.Rows[int]: Shift, Turn. No conditions. -/
import Derived.Test.YtfcpodlbombimaaRgGI
namespace Go.Proofs.Ytfcpodlbombimaa
open Go.RowKit
set_option linter.unusedSimpArgs false
set_option linter.unusedVariables false
def shiftRI (L : List (List Int)) (n : Int) : List (List Int) := match rowAtI L n with | [] => L | y :: _ => remL L y
def turnRI (L : List (List Int)) (n : Int) : List (List Int) := match rowAtI L n with | [] => L | y :: _ => pushR L n y
theorem shiftI_rx {w : World} {S : Nat → Prop} {b r m : Nat} {L : List (List Int)} (h : RXI w S b r m L) (n : Int) :
    Calls Try.prog 19 #[.pointer (some ⟨b, 0, none⟩), .int .i64 n] w fun e W' => ∃ x ok, e = .returned (.tuple #[x, .bool ok]) ∧ FirstIsI (rowAtI L n) x ok ∧ RXI W' (fun k => S k ∨ w.heap.size ≤ k) b r m (shiftRI L n) ∧ Fr S w W' := by
  have hfi := firstI_rx h n
  go_enter Try.func19, Try.ntmps19
  go_wp2_with fail
  refine hfi.mono ?_
  rintro e w1 ⟨x, ok, rfl, hF, hf1⟩
  have h1 := h.keep hf1
  rcases id hF with ⟨rfl, y, t, hr, rfl⟩ | ⟨rfl, hr, rfl⟩
  · have hres : shiftRI L n = remL L y := by unfold shiftRI; rw [hr]
    have HRES := Lib.hid hres
    go_wp2_with fail
    refine (removeI_rx h1 y).mono ?_
    rintro e w2 ⟨rfl, h2, hf2⟩
    have hsz := hf1.size
    have h3 := h2.wide (S2 := fun k => S k ∨ w.heap.size ≤ k) (fun k hk => hk.imp_right (fun h => by omega))
    have hf3 : Fr S w w2 := (hf1.mono' (fun _ h => h.elim)).step hf2 (fun k hk => .inl hk)
    clear h2 hf2 hF hsz hres
    go_wp2
    go_ret2
    exact ⟨_, _, rfl, .inl ⟨rfl, y, t, hr, rfl⟩, by rw [HRES.out]; exact h3, hf3⟩
  · have hres : shiftRI L n = L := by unfold shiftRI; rw [hr]
    have HRES := Lib.hid hres
    clear hres
    go_wp2
    go_ret2
    exact ⟨_, _, rfl, hF, by rw [HRES.out]; exact h1.wide (fun k hk => .inl hk), hf1.mono' (fun _ h => h.elim)⟩
theorem turnI_rx {w : World} {S : Nat → Prop} {b r m : Nat} {L : List (List Int)} (h : RXI w S b r m L) (n : Int) :
    Calls Try.prog 14 #[.pointer (some ⟨b, 0, none⟩), .int .i64 n] w fun e W' => e = .returned (.bool (!(rowAtI L n).isEmpty)) ∧ RXI W' (fun k => S k ∨ w.heap.size ≤ k) b r m (turnRI L n) ∧ Fr S w W' := by
  have hfi := firstI_rx h n
  obtain ⟨q, hq⟩ : ∃ q, (!(rowAtI L n).isEmpty) = q := ⟨_, rfl⟩
  rw [hq]
  go_enter Try.func14, Try.ntmps14
  go_wp2_with fail
  refine hfi.mono ?_
  rintro e w1 ⟨x, ok, rfl, hF, hf1⟩
  have h1 := h.keep hf1
  rcases id hF with ⟨rfl, y, t, hr, rfl⟩ | ⟨rfl, hr, rfl⟩
  · have hres : turnRI L n = pushR L n y := by unfold turnRI; rw [hr]
    have hmay : may L n y = true := by
      have hn : 0 ≤ n ∧ n < L.length := by
        by_cases hn : 0 ≤ n ∧ n < L.length
        · exact hn
        · rw [rowAtI_out hn] at hr; cases hr
      obtain ⟨j, rfl⟩ : ∃ j : Nat, n = j := ⟨n.toNat, by omega⟩
      obtain ⟨l, hl⟩ : ∃ l, L[j]? = some l := ⟨_, List.getElem?_eq_getElem (by omega)⟩
      rw [rowAtI_in hl] at hr
      exact decide_eq_true ⟨hn.1, hn.2, .inl (mem_flat.2 ⟨j, l, hl, by rw [hr]; exact List.mem_cons_self ..⟩)⟩
    obtain rfl : true = q := by rw [← hq, hr]; rfl
    have HRES := Lib.hid hres
    have hp := pushI_rx h1 n y
    rw [hmay] at hp
    clear hq
    go_wp2_with fail
    refine hp.mono ?_
    rintro e w2 ⟨rfl, h2, hf2⟩
    have hsz := hf1.size
    have h3 := h2.wide (S2 := fun k => S k ∨ w.heap.size ≤ k) (fun k hk => hk.imp_right (fun h => by omega))
    have hf3 : Fr S w w2 := (hf1.mono' (fun _ h => h.elim)).step hf2 (fun k hk => .inl hk)
    clear h2 hf2 hF hsz hres hp hmay
    go_wp2
    go_ret
    exact ⟨rfl, by rw [HRES.out]; exact h3, hf3⟩
  · have hres : turnRI L n = L := by unfold turnRI; rw [hr]
    obtain rfl : false = q := by rw [← hq, hr]; rfl
    have HRES := Lib.hid hres
    clear hres hq
    go_wp2
    go_ret
    exact ⟨rfl, by rw [HRES.out]; exact h1.wide (fun k hk => .inl hk), hf1.mono' (fun _ h => h.elim)⟩
end Go.Proofs.Ytfcpodlbombimaa
