/- The walks of Equal, Same, SamePairs, View, the law's same. -/
import Derived.Test.YtcmlegpfapomnaaDh
namespace Go.Proofs.Ytcmlegpfapomnaa
open Go.RowKit
open Go.Op (bytesLess)

theorem ne_pr (x y : Pr) (w : World) : (binOp .neq 53 (prV x) (prV y)).run Try.prog w = .ok (.bool (!(decide (x = y)))) w := by
  have main : ∀ t, Try.prog.underlying t = some (.struct (Try.prog.fieldsOf t)) → Try.prog.stoodInHeld t = false → Try.prog.fieldsOf t = Try.prog.fieldsOf 53 → (binOp .neq t (prV x) (prV y)).run Try.prog w = .ok (.bool (!(decide (x = y)))) w := by
    intro t hS hp hf
    unfold prV
    rw [run_neq_struct, show (10000 : Nat) = 9999 + 1 from rfl, run_equalIn_agg w 9999 t _ _ hS hp, hf]
    simp only [Program.fieldsOf, Try.underlying53]
    obtain ⟨x1, x2⟩ := x
    obtain ⟨y1, y2⟩ := y
    go_simp
    by_cases h1 : x1 = y1 <;> by_cases h2 : x2 = y2 <;> simp [h1, h2]
  exact main 53 (by kernel_rfl) (by kernel_rfl) rfl
theorem ne_ch (t : TypeId) (ht : t = 55 ∨ t = 71) (x y : Ch) (w : World) : (binOp .neq t (chV x) (chV y)).run Try.prog w = .ok (.bool (!(decide (x = y)))) w := by
  have main : ∀ t, Try.prog.underlying t = some (.struct (Try.prog.fieldsOf t)) → Try.prog.stoodInHeld t = false → Try.prog.fieldsOf t = Try.prog.fieldsOf 55 → (binOp .neq t (chV x) (chV y)).run Try.prog w = .ok (.bool (!(decide (x = y)))) w := by
    intro t hS hp hf
    unfold chV
    rw [run_neq_struct, show (10000 : Nat) = 9999 + 1 from rfl, run_equalIn_agg w 9999 t _ _ hS hp, hf]
    simp only [Program.fieldsOf, Try.underlying55]
    obtain ⟨x1, x2, x3, x4, x5⟩ := x
    obtain ⟨y1, y2, y3, y4, y5⟩ := y
    go_simp
    by_cases h1 : x1 = y1 <;> by_cases h2 : x2 = y2 <;> by_cases h3 : x3 = y3 <;> by_cases h4 : x4 = y4 <;> by_cases h5 : x5 = y5 <;> simp [h1, h2, h3, h4, h5]
  rcases ht with rfl | rfl
  · exact main 55 (by kernel_rfl) (by kernel_rfl) rfl
  · exact main 71 (by kernel_rfl) (by kernel_rfl) (by kernel_rfl)
theorem prs_ext {L M : List Pr} (hl : L.length = M.length) (h : ∀ j, j < L.length → nthP L j = nthP M j) : L = M := by
  apply List.ext_getElem hl
  intro i h1 h2
  have := h i h1
  simpa [nthP, List.getD, h1, h2] using this
theorem chs_ext {L M : List Ch} (hl : L.length = M.length) (h : ∀ j, j < L.length → nthC L j = nthC M j) : L = M := by
  apply List.ext_getElem hl
  intro i h1 h2
  have := h i h1
  simpa [nthC, List.getD, h1, h2] using this
set_option maxHeartbeats 4000000 in
theorem equal_any (A : Option Addr) (n c : Nat) (L : List Ch) (B : Option Addr) (m d : Nat) (M : List Ch) (w : World) (hn : n ≤ 1000) (h : Rch w A n L) (h' : Rch w B m M) :
    Calls Try.prog 40 #[.slice A n c, .slice B m d] w fun e w' => e = .returned (.bool (decide (L = M))) ∧ Below w.heap.size w w' := by
  have H := hide h
  have H' := hide h'
  have HL := hide h.len
  have HM := hide h'.len
  by_cases hnm : n = m
  · subst hnm
    clear h h'
    go_enter Try.func40, Try.ntmps40
    go_wp2_with fail
    go_loopw [5, 13] (fun _ i wr => ∃ k : Nat, k ≤ n ∧ i = .int .i64 k ∧ (∀ j, j < k → nthC L j = nthC M j) ∧ Below w.heap.size w wr) (fun _ i _ => n - (intOf i).toNat)
    case atStart => exact ⟨0, Nat.zero_le _, rfl, fun j hj => absurd hj (by omega), Below.refl _ _⟩
    case round =>
      obtain ⟨k, hk, rfl, hsame, hbr⟩ := hrel
      have HB := hide hbr
      have HS := hide hsame
      clear hsame
      by_cases hlt : k < n
      · obtain ⟨b, o, rfl, _, h0, h1, h2, h3, h4⟩ := (H.out.below hbr).at_ hlt
        obtain ⟨b', o', rfl, _, g0, g1, g2, g3, g4⟩ := (H'.out.below hbr).at_ hlt
        have ne := fun w => ne_ch 55 (.inl rfl) (nthC L k) (nthC M k) w
        unfold chV at ne
        obtain ⟨q, hq⟩ : ∃ q, (!(decide (nthC L k = nthC M k))) = q := ⟨_, rfl⟩
        have HQ := hide hq
        rw [hq] at ne
        have k0 : (0 : Int) ≤ (k : Int) := by omega
        have kn : (k : Int) < (n : Int) := by omega
        clear hq hbr
        go_wp2_with fail
        go_quiet (fail)
        all_goals cases q
        · go_wp2_with fail
          go_roundw
          case rel =>
            refine ⟨k + 1, by omega, by go_num, fun j hj => ?_, Below.drewN' HB.out _⟩
            rcases Nat.lt_or_ge j k with h1 | h1
            · exact HS.out j h1
            · obtain rfl : j = k := by omega
              have := HQ.out
              simpa using this
          case measure => simp [intOf]; omega
        · go_wp2_with fail
          go_ret
          refine ⟨?_, Below.drewN' HB.out _⟩
          rw [decide_eq_false (fun e => by have := HQ.out; simp [e] at this)]
          rfl
      · obtain rfl : k = n := by omega
        go_wp2_with fail
        go_ret
        refine ⟨?_, HB.out⟩
        rw [decide_eq_true (chs_ext (by rw [HL.out, HM.out]) (fun j hj => HS.out j (by rw [← HL.out]; exact hj)))]
        rfl
  · have dn : ((n : Int) != (m : Int)) = true := by rw [bne_iff_ne]; omega
    have hne : L ≠ M := fun e => hnm (by rw [← h.len, ← h'.len, e])
    rw [decide_eq_false hne]
    clear h h' hne
    go_enter Try.func40, Try.ntmps40
    go_wp2_with fail
    go_ret
    exact ⟨rfl, Below.refl _ _⟩
theorem same_any (A : Option Addr) (n c : Nat) (L : List Ch) (B : Option Addr) (m d : Nat) (M : List Ch) (w : World) (hn : n ≤ 1000) (h : Rch w A n L) (h' : Rch w B m M) :
    Calls Try.prog 14 #[.slice A n c, .slice B m d] w fun e w' => e = .returned (.bool (decide (L = M))) ∧ Below w.heap.size w w' := by
  have E := hide (equal_any A n c L B m d M w hn h h')
  obtain ⟨q, hq⟩ : ∃ q, decide (L = M) = q := ⟨_, rfl⟩
  rw [hq] at E ⊢
  clear h h' hq
  go_enter Try.func14, Try.ntmps14
  go_wp2_with (go_at_call 40; refine E.out.mono ?_; rintro r w1 ⟨rfl, hb1⟩)
  go_ret
  exact ⟨rfl, hb1⟩
set_option maxHeartbeats 4000000 in
theorem samep_any (A : Option Addr) (n c : Nat) (L : List Pr) (B : Option Addr) (m d : Nat) (M : List Pr) (w : World) (hn : n ≤ 1000) (h : Rp w A n L) (h' : Rp w B m M) :
    Calls Try.prog 15 #[.slice A n c, .slice B m d] w fun e w' => e = .returned (.bool (decide (L = M))) ∧ Below w.heap.size w w' := by
  have H := hide h
  have H' := hide h'
  have HL := hide h.len
  have HM := hide h'.len
  by_cases hnm : n = m
  · subst hnm
    clear h h'
    go_enter Try.func15, Try.ntmps15
    go_wp2_with fail
    go_loopw [5] (fun i wr => ∃ k : Nat, k ≤ n ∧ i = .int .i64 k ∧ (∀ j, j < k → nthP L j = nthP M j) ∧ Below w.heap.size w wr) (fun i _ => n - (intOf i).toNat)
    case atStart => exact ⟨0, Nat.zero_le _, rfl, fun j hj => absurd hj (by omega), Below.refl _ _⟩
    case round =>
      obtain ⟨k, hk, rfl, hsame, hbr⟩ := hrel
      have HB := hide hbr
      have HS := hide hsame
      clear hsame
      by_cases hlt : k < n
      · obtain ⟨b, o, rfl, _, h0, h1⟩ := (H.out.below hbr).at_ hlt
        obtain ⟨b', o', rfl, _, g0, g1⟩ := (H'.out.below hbr).at_ hlt
        have ne := fun w => ne_pr (nthP L k) (nthP M k) w
        unfold prV at ne
        obtain ⟨q, hq⟩ : ∃ q, (!(decide (nthP L k = nthP M k))) = q := ⟨_, rfl⟩
        have HQ := hide hq
        rw [hq] at ne
        have k0 : (0 : Int) ≤ (k : Int) := by omega
        have kn : (k : Int) < (n : Int) := by omega
        clear hq hbr
        go_wp2_with fail
        go_quiet (fail)
        all_goals cases q
        · go_wp2_with fail
          go_roundw
          case rel =>
            refine ⟨k + 1, by omega, by go_num, fun j hj => ?_, Below.drewN' HB.out _⟩
            rcases Nat.lt_or_ge j k with h1 | h1
            · exact HS.out j h1
            · obtain rfl : j = k := by omega
              have := HQ.out
              simpa using this
          case measure => simp [intOf]; omega
        · go_wp2_with fail
          go_ret
          refine ⟨?_, Below.drewN' HB.out _⟩
          rw [decide_eq_false (fun e => by have := HQ.out; simp [e] at this)]
          rfl
      · obtain rfl : k = n := by omega
        go_wp2_with fail
        go_ret
        refine ⟨?_, HB.out⟩
        rw [decide_eq_true (prs_ext (by rw [HL.out, HM.out]) (fun j hj => HS.out j (by rw [← HL.out]; exact hj)))]
        rfl
  · have dn : ((n : Int) != (m : Int)) = true := by rw [bne_iff_ne]; omega
    have hne : L ≠ M := fun e => hnm (by rw [← h.len, ← h'.len, e])
    rw [decide_eq_false hne]
    clear h h' hne
    go_enter Try.func15, Try.ntmps15
    go_wp2_with fail
    go_ret
    exact ⟨rfl, Below.refl _ _⟩
set_option maxHeartbeats 4000000 in
theorem rsame_any (A : Option Addr) (n c : Nat) (L : List Ch) (B : Option Addr) (m d : Nat) (M : List Ch) (w : World) (hn : n ≤ 1000) (h : Rch w A n L) (h' : Rch w B m M) :
    Calls Try.prog 26 #[.slice A n c, .slice B m d] w fun e w' => e = .returned (.bool (decide (L = M))) ∧ Below w.heap.size w w' := by
  have H := hide h
  have H' := hide h'
  have HL := hide h.len
  have HM := hide h'.len
  by_cases hnm : n = m
  · subst hnm
    clear h h'
    go_enter Try.func26, Try.ntmps26
    go_wp2_with fail
    go_loopw [5] (fun i wr => ∃ k : Nat, k ≤ n ∧ i = .int .i64 k ∧ (∀ j, j < k → nthC L j = nthC M j) ∧ Below w.heap.size w wr) (fun i _ => n - (intOf i).toNat)
    case atStart => exact ⟨0, Nat.zero_le _, rfl, fun j hj => absurd hj (by omega), Below.refl _ _⟩
    case round =>
      obtain ⟨k, hk, rfl, hsame, hbr⟩ := hrel
      have HB := hide hbr
      have HS := hide hsame
      clear hsame
      by_cases hlt : k < n
      · obtain ⟨b, o, rfl, _, h0, h1, h2, h3, h4⟩ := (H.out.below hbr).at_ hlt
        obtain ⟨b', o', rfl, _, g0, g1, g2, g3, g4⟩ := (H'.out.below hbr).at_ hlt
        have ne := fun w => ne_ch 71 (.inr rfl) (nthC L k) (nthC M k) w
        unfold chV at ne
        obtain ⟨q, hq⟩ : ∃ q, (!(decide (nthC L k = nthC M k))) = q := ⟨_, rfl⟩
        have HQ := hide hq
        rw [hq] at ne
        have k0 : (0 : Int) ≤ (k : Int) := by omega
        have kn : (k : Int) < (n : Int) := by omega
        clear hq hbr
        go_wp2_with fail
        go_quiet (fail)
        all_goals cases q
        · go_wp2_with fail
          go_roundw
          case rel =>
            refine ⟨k + 1, by omega, by go_num, fun j hj => ?_, Below.drewN' HB.out _⟩
            rcases Nat.lt_or_ge j k with h1 | h1
            · exact HS.out j h1
            · obtain rfl : j = k := by omega
              have := HQ.out
              simpa using this
          case measure => simp [intOf]; omega
        · go_wp2_with fail
          go_ret
          refine ⟨?_, Below.drewN' HB.out _⟩
          rw [decide_eq_false (fun e => by have := HQ.out; simp [e] at this)]
          rfl
      · obtain rfl : k = n := by omega
        go_wp2_with fail
        go_ret
        refine ⟨?_, HB.out⟩
        rw [decide_eq_true (chs_ext (by rw [HL.out, HM.out]) (fun j hj => HS.out j (by rw [← HL.out]; exact hj)))]
        rfl
  · have dn : ((n : Int) != (m : Int)) = true := by rw [bne_iff_ne]; omega
    have hne : L ≠ M := fun e => hnm (by rw [← h.len, ← h'.len, e])
    rw [decide_eq_false hne]
    clear h h' hne
    go_enter Try.func26, Try.ntmps26
    go_wp2_with fail
    go_ret
    exact ⟨rfl, Below.refl _ _⟩
set_option maxHeartbeats 4000000 in
theorem lsame_any (A : Option Addr) (n c : Nat) (L : List Ch) (B : Option Addr) (m d : Nat) (M : List Ch) (w : World) (hn : n ≤ 1000) (h : Rch w A n L) (h' : Rch w B m M) :
    Calls Try.prog 19 #[.slice A n c, .slice B m d] w fun e w' => e = .returned (.bool (decide (L = M))) ∧ Below w.heap.size w w' := by
  have H := hide h
  have H' := hide h'
  have HL := hide h.len
  have HM := hide h'.len
  by_cases hnm : n = m
  · subst hnm
    clear h h'
    go_enter Try.func19, Try.ntmps19
    go_wp2_with fail
    go_loopw [5] (fun i wr => ∃ k : Nat, k ≤ n ∧ i = .int .i64 k ∧ (∀ j, j < k → nthC L j = nthC M j) ∧ Below w.heap.size w wr) (fun i _ => n - (intOf i).toNat)
    case atStart => exact ⟨0, Nat.zero_le _, rfl, fun j hj => absurd hj (by omega), Below.refl _ _⟩
    case round =>
      obtain ⟨k, hk, rfl, hsame, hbr⟩ := hrel
      have HB := hide hbr
      have HS := hide hsame
      clear hsame
      by_cases hlt : k < n
      · obtain ⟨b, o, rfl, _, h0, h1, h2, h3, h4⟩ := (H.out.below hbr).at_ hlt
        obtain ⟨b', o', rfl, _, g0, g1, g2, g3, g4⟩ := (H'.out.below hbr).at_ hlt
        have ne := fun w => ne_ch 71 (.inr rfl) (nthC L k) (nthC M k) w
        unfold chV at ne
        obtain ⟨q, hq⟩ : ∃ q, (!(decide (nthC L k = nthC M k))) = q := ⟨_, rfl⟩
        have HQ := hide hq
        rw [hq] at ne
        have k0 : (0 : Int) ≤ (k : Int) := by omega
        have kn : (k : Int) < (n : Int) := by omega
        clear hq hbr
        go_wp2_with fail
        go_quiet (fail)
        all_goals cases q
        · go_wp2_with fail
          go_roundw
          case rel =>
            refine ⟨k + 1, by omega, by go_num, fun j hj => ?_, Below.drewN' HB.out _⟩
            rcases Nat.lt_or_ge j k with h1 | h1
            · exact HS.out j h1
            · obtain rfl : j = k := by omega
              have := HQ.out
              simpa using this
          case measure => simp [intOf]; omega
        · go_wp2_with fail
          go_ret
          refine ⟨?_, Below.drewN' HB.out _⟩
          rw [decide_eq_false (fun e => by have := HQ.out; simp [e] at this)]
          rfl
      · obtain rfl : k = n := by omega
        go_wp2_with fail
        go_ret
        refine ⟨?_, HB.out⟩
        rw [decide_eq_true (chs_ext (by rw [HL.out, HM.out]) (fun j hj => HS.out j (by rw [← HL.out]; exact hj)))]
        rfl
  · have dn : ((n : Int) != (m : Int)) = true := by rw [bne_iff_ne]; omega
    have hne : L ≠ M := fun e => hnm (by rw [← h.len, ← h'.len, e])
    rw [decide_eq_false hne]
    clear h h' hne
    go_enter Try.func19, Try.ntmps19
    go_wp2_with fail
    go_ret
    exact ⟨rfl, Below.refl _ _⟩
set_option maxHeartbeats 4000000 in
theorem view_any (A : Option Addr) (n c : Nat) (L : List Pr) (w : World) (hn : n ≤ 1000) (h : Rp w A n L) :
    Calls Try.prog 8 #[.slice A n c] w fun e w' => e = .returned (.bool (ris (L.map Pr.k))) ∧ Below w.heap.size w w' := by
  have H := hide h
  have HL := hide h.len
  clear h
  obtain ⟨R, hR⟩ : ∃ R, ris (L.map Pr.k) = R := ⟨_, rfl⟩
  rw [hR]
  have HR := hide hR
  clear hR
  go_enter Try.func8, Try.ntmps8
  go_wp2_with fail
  go_loopw [3] (fun i wr => ∃ k : Nat, 1 ≤ k ∧ k ≤ max 1 n ∧ i = .int .i64 k ∧ (∀ j, j + 1 < k → bytesLess (nthP L j).k (nthP L (j + 1)).k = true) ∧ Below w.heap.size w wr) (fun i _ => 1 + n - (intOf i).toNat)
  case atStart => exact ⟨1, Nat.le_refl _, by omega, rfl, fun j hj => absurd hj (by omega), Below.refl _ _⟩
  case round =>
    obtain ⟨k, hk1, hk2, rfl, hno, hbr⟩ := hrel
    have HN := hide hno
    have HB := hide hbr
    clear hno
    by_cases hlt : k < n
    · obtain ⟨j, rfl⟩ : ∃ j, k = j + 1 := ⟨k - 1, by omega⟩
      obtain ⟨b, o, rfl, hb, g0, g1⟩ := (H.out.below hbr).at_ (k := j) (by omega)
      obtain ⟨b', o', hbo, _, q0, q1⟩ := (H.out.below hbr).at_ (k := j + 1) hlt
      cases hbo
      obtain ⟨X, hX⟩ : ∃ X, nthP L j = X := ⟨_, rfl⟩
      obtain ⟨Y, hY⟩ : ∃ Y, nthP L (j + 1) = Y := ⟨_, rfl⟩
      rw [hX] at g0 g1
      rw [hY] at q0 q1
      have HX := hide hX
      have HY := hide hY
      have hj0 : (0 : Int) ≤ (j : Int) := by omega
      have hjn : (j : Int) + 1 < (n : Int) := by omega
      have hjn2 : (j : Int) < (n : Int) := by omega
      have hj1 : (0 : Int) ≤ (j : Int) + 1 := by omega
      have hw1 : IntKind.i64.wrap ((j : Int) + 1 - 1) = (j : Int) := by rw [IntKind.wrap_i64]; omega
      have hw2 : IntKind.i64.wrap (j : Int) = (j : Int) := by rw [IntKind.wrap_i64]; omega
      have hw3 : wrap64 ((j : Int) + 1 - 1) = (j : Int) := by unfold wrap64; omega
      have hw4 : wrap64 (j : Int) = (j : Int) := by unfold wrap64; omega
      have hw5 : (j : Int) + 1 - 1 = (j : Int) := by omega
      obtain ⟨q, hq⟩ : ∃ q, (!(bytesLess X.k Y.k)) = q := ⟨_, rfl⟩
      have HQ := hide hq
      clear hbr hX hY hq hb
      go_wp2_with fail
      go_quiet (fail)
      all_goals rw [HQ.out]
      all_goals cases q
      · go_wp2_with fail
        go_roundw
        case rel =>
          refine ⟨j + 1 + 1, by omega, by omega, by go_num, fun i hi => ?_, Below.drewN' HB.out _⟩
          rcases Nat.lt_or_ge (i + 1) (j + 1) with h1 | h1
          · exact HN.out i h1
          · obtain rfl : i = j := by omega
            rw [HX.out, HY.out]; simpa using HQ.out
        case measure => simp [intOf]; omega
      · go_wp2_with fail
        go_ret
        refine ⟨?_, Below.drewN' HB.out _⟩
        rw [← HR.out, ris_no (k := j) (by rw [List.length_map, HL.out]; exact hlt) (by rw [nthP_map L j (by rw [HL.out]; omega), nthP_map L (j + 1) (by rw [HL.out]; exact hlt), HX.out, HY.out]; simpa using HQ.out)]
        rfl
    · go_wp2_with fail
      go_ret
      refine ⟨?_, HB.out⟩
      rw [← HR.out, ris_yes (fun i hi => by
        rw [List.length_map, HL.out] at hi
        rw [nthP_map L i (by rw [HL.out]; omega), nthP_map L (i + 1) (by rw [HL.out]; omega)]
        exact HN.out i (by omega))]
      rfl
end Go.Proofs.Ytcmlegpfapomnaa
