/- The walk of the document's Check. -/
import Derived.Test.YtcmlegpfapomnaaDl
namespace Go.Proofs.Ytcmlegpfapomnaa
open Go.RowKit Go.Instr
open Go.Op (bytesLess)

theorem any_no {L : List Ch} {k : Nat} (hk : k < L.length) (h : badC (nthC L k) = true) : L.any badC = true := by
  rw [List.any_eq_true]
  exact ⟨L[k], List.getElem_mem hk, by have : nthC L k = L[k] := by simp [nthC, List.getD, hk]
                                       rw [← this, h]⟩
theorem any_yes {L : List Ch} (h : ∀ j, j < L.length → badC (nthC L j) = false) : L.any badC = false := by
  rw [List.any_eq_false]
  intro x hx
  obtain ⟨j, hj, rfl⟩ := List.getElem_of_mem hx
  have : nthC L j = L[j] := by simp [nthC, List.getD, hj]
  rw [← this, h j hj]
  simp
set_option maxRecDepth 100000 in
set_option maxHeartbeats 16000000 in
theorem rcheck_any (A : Option Addr) (n c : Nat) (L : List Ch) (w : World) (hn : n ≤ 1000) (h : Rch w A n L) :
    Calls Try.prog 23 #[.slice A n c] w fun e w' => e = .returned (.int .i64 (chk L)) ∧ Below w.heap.size w w' := by
  have H := hide h
  have HL := hide h.len
  clear h
  obtain ⟨R, hR⟩ : ∃ R, chk L = R := ⟨_, rfl⟩
  rw [hR]
  have HR := hide hR
  clear hR
  go_enter Try.func23, Try.ntmps23
  go_wp2_with fail
  go_loopw [3] (fun i wr => ∃ k : Nat, 1 ≤ k ∧ k ≤ max 1 n ∧ i = .int .i64 k ∧ (∀ j, j + 1 < k → bytesLess (nthC L j).k (nthC L (j + 1)).k = true) ∧ Below w.heap.size w wr) (fun i _ => 1 + n - (intOf i).toNat)
  case atStart => exact ⟨1, Nat.le_refl _, by omega, rfl, fun j hj => absurd hj (by omega), Below.refl _ _⟩
  case round =>
    obtain ⟨k, hk1, hk2, rfl, hno, hbr⟩ := hrel
    have HN := hide hno
    have HB := hide hbr
    clear hno
    by_cases hlt : k < n
    · obtain ⟨j, rfl⟩ : ∃ j, k = j + 1 := ⟨k - 1, by omega⟩
      obtain ⟨b, o, rfl, hb, g0, g1, g2, g3, g4⟩ := (H.out.below hbr).at_ (k := j) (by omega)
      obtain ⟨b', o', hbo, _, q0, q1, q2, q3, q4⟩ := (H.out.below hbr).at_ (k := j + 1) hlt
      cases hbo
      obtain ⟨X, hX⟩ : ∃ X, nthC L j = X := ⟨_, rfl⟩
      obtain ⟨Y, hY⟩ : ∃ Y, nthC L (j + 1) = Y := ⟨_, rfl⟩
      rw [hX] at g0
      rw [hY] at q0
      have HX := hide hX
      have HY := hide hY
      have hj0 : (0 : Int) ≤ (j : Int) := by omega
      have hjn : (j : Int) + 1 < (n : Int) := by omega
      have hjn2 : (j : Int) < (n : Int) := by omega
      have hj1 : (0 : Int) ≤ (j : Int) + 1 := by omega
      have hw1 : IntKind.i64.wrap ((j : Int) + 1 - 1) = (j : Int) := by rw [IntKind.wrap_i64]; omega
      have hw2 : IntKind.i64.wrap (j : Int) = (j : Int) := by rw [IntKind.wrap_i64]; omega
      have hw3 : wrap64 ((j : Int) + 1 - 1) = (j : Int) := by unfold wrap64; omega
      have hw4 : wrap64 (j : Int) = (j : Int) := by unfold wrap64; omega
      have hw5 : (j : Int) + 1 - 1 = (j : Int) := by omega
      obtain ⟨q, hq⟩ : ∃ q, (!(bytesLess X.k Y.k)) = q := ⟨_, rfl⟩
      have HQ := hide hq
      clear hbr hX hY hq hb g1 g2 g3 g4 q1 q2 q3 q4
      go_wp2_with fail
      go_quiet (fail)
      all_goals rw [HQ.out]
      all_goals cases q
      · go_wp2_with fail
        go_roundw
        case rel =>
          refine ⟨j + 1 + 1, by omega, by omega, by go_num, fun i hi => ?_, Below.drewN' HB.out _⟩
          rcases Nat.lt_or_ge (i + 1) (j + 1) with h1 | h1
          · exact HN.out i h1
          · obtain rfl : i = j := by omega
            rw [HX.out, HY.out]; simpa using HQ.out
        case measure => simp [intOf]; omega
      · go_wp2_with fail
        go_ret
        refine ⟨?_, Below.drewN' HB.out _⟩
        rw [← HR.out, chk, if_pos (ris_no (k := j) (by rw [List.length_map, HL.out]; exact hlt) (by rw [nthC_map L j (by rw [HL.out]; omega), nthC_map L (j + 1) (by rw [HL.out]; exact hlt), HX.out, HY.out]; simpa using HQ.out))]
        rfl
    · have hris : ris (L.map Ch.k) = true := ris_yes (fun i hi => by
        rw [List.length_map, HL.out] at hi
        rw [nthC_map L i (by rw [HL.out]; omega), nthC_map L (i + 1) (by rw [HL.out]; omega)]
        exact HN.out i (by omega))
      have HRS := hide (show (if L.any badC = true then (4 : Int) else 0) = R by have := HR.out; unfold chk at this; rwa [if_neg (by rw [hris]; simp)] at this)
      clear hris HN
      go_wp2_with fail
      go_loopw [4] (fun i ws => ∃ j : Nat, j ≤ n ∧ i = .int .i64 j ∧ (∀ i, i < j → badC (nthC L i) = false) ∧ Below w.heap.size w ws) (fun i _ => n - (intOf i).toNat)
      case atStart => exact ⟨0, Nat.zero_le _, rfl, fun j hj => absurd hj (by omega), HB.out⟩
      case round =>
        obtain ⟨j, hj, rfl, hnb, hbs⟩ := hrel
        have HNB := hide hnb
        have HBS := hide hbs
        clear hnb
        by_cases hlt2 : j < n
        · obtain ⟨b, o, rfl, hb, g0, g1, g2, g3, g4⟩ := (H.out.below hbs).at_ hlt2
          obtain ⟨T, hT⟩ : ∃ T, nthC L j = T := ⟨_, rfl⟩
          rw [hT] at g0 g1 g2 g3 g4
          obtain ⟨Q, hQ⟩ : ∃ Q, badC T = Q := ⟨_, rfl⟩
          have HT := hide hT
          have HBX := hide (fun ob => Below.al HBS.out ob)
          obtain ⟨key, was, now, had, has⟩ := T
          obtain ⟨q, hq⟩ : ∃ q, (was == now) = q := ⟨_, rfl⟩
          have hjn : (j : Int) < (n : Int) := by omega
          have hj0 : (0 : Int) ≤ (j : Int) := by omega
          clear hbs hb hT
          unfold badC wholeB at hQ
          dsimp only at g0 g1 g2 g3 g4 hQ
          rw [hq] at hQ
          have HQ := hide hQ
          have HQQ := hide hq
          clear hq hQ
          cases had <;> cases has <;> cases was <;> cases now <;> cases q
          all_goals first
            | (exfalso; have := HQQ.out; simp at this; done)
            | (
              have hq2 := HQ.out
              simp at hq2
              subst hq2
              have hq := HQQ.out
              go_wp2_with fail
              first
                | (go_ret
                   refine ⟨?_, HBX.out _⟩
                   rw [← HRS.out, if_pos (any_no (k := j) (by rw [HL.out]; exact hlt2) (by rw [HT.out]; unfold badC wholeB; simp [hq]; done))]
                   rfl)
                | (go_roundw
                   case rel =>
                     refine ⟨j + 1, by omega, by go_num, fun i hi => ?_, HBX.out _⟩
                     rcases Nat.lt_or_ge i j with h1 | h1
                     · exact HNB.out i h1
                     · obtain rfl : i = j := by omega
                       rw [HT.out]
                       unfold badC wholeB
                       simp [hq]
                   case measure => simp [intOf]; omega))
        · obtain rfl : j = n := by omega
          go_wp2_with fail
          go_ret
          refine ⟨?_, HBS.out⟩
          rw [← HRS.out, if_neg (by rw [any_yes (fun i hi => HNB.out i (by rw [← HL.out]; exact hi))]; simp)]
          rfl
end Go.Proofs.Ytcmlegpfapomnaa
