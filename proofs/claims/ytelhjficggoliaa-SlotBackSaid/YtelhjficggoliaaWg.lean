/- The walks of 'same' and 'Light'. -/
import Derived.Test.YtelhjficggoliaaWf
namespace Go.Proofs.Ytelhjficggoliaa
open Go.RowKit

theorem list_ext_getD {α : Type} (d : α) {a b : List α} (hl : a.length = b.length) (h : ∀ j, j < a.length → a.getD j d = b.getD j d) : a = b := by
  apply List.ext_getElem hl
  intro i h1 h2
  have := h i h1
  simpa [List.getD, h1, h2] using this

theorem getD_eq (L : List (List UInt8)) (k : Nat) (h : k < L.length) : L.getD k [] = L[k] := by simp [List.getD, h]
set_option maxHeartbeats 4000000 in
theorem same_any (A : Option Addr) (n c : Nat) (L : List (List UInt8)) (B : Option Addr) (m d : Nat) (M : List (List UInt8)) (w : World) (hn : (n : Int) ≤ 9223372036854775807) (h : Rbb w A n L) (h' : Rbb w B m M) :
    Calls Try.prog 10 #[.slice A n c, .slice B m d] w fun e w' => e = .returned (.bool (decide (L = M))) ∧ Below w.heap.size w w' := by
  have HL := hide h.1
  have HM := hide h'.1
  by_cases hnm : n = m
  · subst hnm
    have H := hide h
    have H' := hide h'
    clear h h'
    go_enter Try.func10, Try.ntmps10
    go_wp2_with fail
    go_loopw [4, 5] (fun _ i wr => ∃ k q : Nat, k ≤ n ∧ i = .int .i64 k ∧ wr = w.drewN q ∧ ∀ j, j < k → L.getD j [] = M.getD j []) (fun _ i _ => n - (intOf i).toNat)
    case atStart => exact ⟨0, 0, Nat.zero_le _, rfl, rfl, fun j hj => absurd hj (by omega)⟩
    case round =>
      obtain ⟨k, q, hk, rfl, rfl, heq⟩ := hrel
      have HE := hide heq
      clear heq
      by_cases hlt : k < n
      · obtain ⟨b1, o1, A1, n1, c1, rfl, hb1, hc1, hr1, _, _⟩ := H.out.at_ hlt
        obtain ⟨b2, o2, A2, n2, c2, rfl, hb2, hc2, hr2, _, _⟩ := H'.out.at_ hlt
        obtain ⟨l1, hl1⟩ : ∃ l1, l1 = L.getD k [] := ⟨_, rfl⟩
        obtain ⟨l2, hl2⟩ : ∃ l2, l2 = M.getD k [] := ⟨_, rfl⟩
        rw [← hl1] at hr1
        rw [← hl2] at hr2
        have k1 := fun nq => conv_bytes (P := Try.prog) 22 5 9 Try.underlying22 Try.underlying5 Try.underlying9 c1 (show Rb (w.drewN nq) _ _ _ from hr1)
        have k2 := fun nq => conv_bytes (P := Try.prog) 22 5 9 Try.underlying22 Try.underlying5 Try.underlying9 c2 (show Rb (w.drewN nq) _ _ _ from hr2)
        clear hr1 hr2
        have HL1 := hide hl1
        have HL2 := hide hl2
        clear hl1 hl2
        by_cases he : l1 = l2
        · have hq : (!(l1 == l2)) = false := by simp [he]
          have HQ := hide he
          clear he
          go_wp2_with fail
          go_quiet (fail)
          go_wp2_with fail
          go_roundw
          case rel => exact ⟨k + 1, q + nq, by omega, by go_num, rfl, fun j hj => by
            rcases Nat.lt_or_ge j k with h1 | h1
            · exact HE.out j h1
            · obtain rfl : j = k := by omega
              rw [← HL1.out, ← HL2.out, HQ.out]⟩
          case measure => simp [intOf]; omega
        · have hq : (!(l1 == l2)) = true := by simp [he]
          have HQ := hide (show decide (L = M) = false by
            refine decide_eq_false fun e => he ?_
            rw [HL1.out, HL2.out, e])
          clear he
          go_wp2_with fail
          go_quiet (fail)
          go_wp2_with fail
          go_ret
          exact ⟨by rw [HQ.out] <;> rfl, Below.drewN' (Below.drewN' (Below.refl _ _) _) _⟩
      · obtain rfl : k = n := by omega
        have HQ := hide (show decide (L = M) = true from decide_eq_true (list_ext_getD [] (by rw [HL.out, HM.out]) (fun j hj => HE.out j (by rw [HL.out] at hj; exact hj))))
        go_wp2_with fail
        go_ret
        exact ⟨by rw [HQ.out] <;> rfl, Below.drewN' (Below.refl _ _) _⟩
  · have hd : ((n : Int) != (m : Int)) = true := by rw [bne_iff_ne]; omega
    have HQ := hide (show decide (L = M) = false from decide_eq_false fun e => hnm (by rw [← HL.out, ← HM.out, e]))
    clear h h'
    go_enter Try.func10, Try.ntmps10
    go_wp2_with fail
    go_ret
    exact ⟨by rw [HQ.out] <;> rfl, Below.refl _ _⟩

/-- What Light tells. -/
def light (L : List (List UInt8)) : Bool := decide (L.length ≤ 10) && L.all fun l => decide (l.length ≤ 300)
theorem light_len {L : List (List UInt8)} (h : light L = true) : L.length ≤ 10 := by
  simp [light] at h; exact h.1
theorem light_at {L : List (List UInt8)} (h : light L = true) : ∀ l ∈ L, l.length ≤ 300 := by
  simp [light] at h; exact h.2
set_option maxHeartbeats 4000000 in
theorem light_any (A : Option Addr) (n c : Nat) (L : List (List UInt8)) (w : World) (h : Rbb w A n L) :
    Calls Try.prog 11 #[.slice A n c] w fun e w' => e = .returned (.bool (light L)) ∧ w = w' := by
  have HL := hide h.1
  have H := hide h
  clear h
  by_cases hn : 10 < n
  · have HQ := hide (show light L = false by unfold light; rw [HL.out, decide_eq_false (by omega)]; rfl)
    go_enter Try.func11, Try.ntmps11
    go_wp2_with fail
    go_ret
    exact ⟨by rw [HQ.out] <;> rfl, rfl⟩
  · go_enter Try.func11, Try.ntmps11
    go_wp2_with fail
    go_loop [3] (fun i => ∃ k : Nat, k ≤ n ∧ i = .int .i64 k ∧ ∀ j, j < k → (L.getD j []).length ≤ 300) (fun i => n - (intOf i).toNat)
    case atStart => exact ⟨0, Nat.zero_le _, rfl, fun j hj => absurd hj (by omega)⟩
    case round =>
      obtain ⟨k, hk, rfl, heq⟩ := hrel
      have HE := hide heq
      clear heq
      by_cases hlt : k < n
      · obtain ⟨b1, o1, A1, n1, c1, rfl, hb1, hc1, hr1, _, _⟩ := H.out.at_ hlt
        have HR := hide hr1.len
        clear hr1
        by_cases hm : 300 < n1
        · have HQ := hide (show light L = false by
            unfold light
            rw [Bool.and_eq_false_iff]
            right
            rw [List.all_eq_false]
            refine ⟨L.getD k [], ?_, by rw [HR.out]; simp; omega⟩
            rw [getD_eq L k (by rw [HL.out]; exact hlt)]
            exact List.getElem_mem _)
          go_wp2_with fail
          go_ret
          exact ⟨by rw [HQ.out] <;> rfl, rfl⟩
        · go_wp2_with fail
          go_round
          case rel => exact ⟨k + 1, by omega, by go_num, fun j hj => by
            rcases Nat.lt_or_ge j k with h1 | h1
            · exact HE.out j h1
            · obtain rfl : j = k := by omega
              rw [HR.out]; omega⟩
          case measure => simp [intOf]; omega
      · obtain rfl : k = n := by omega
        have HQ := hide (show light L = true by
          unfold light
          rw [HL.out, decide_eq_true (by omega), Bool.true_and, List.all_eq_true]
          intro l hl
          obtain ⟨i, hi, rfl⟩ := List.getElem_of_mem hl
          have := HE.out i (by rw [← HL.out]; exact hi)
          rw [getD_eq L i hi] at this
          simpa using this)
        go_wp2_with fail
        go_ret
        exact ⟨by rw [HQ.out] <;> rfl, rfl⟩

end Go.Proofs.Ytelhjficggoliaa
