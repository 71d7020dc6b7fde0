/- The walk of the law WalsecTorn. -/
import Derived.Test.YtmdhckcoinhfpaaWm
import Derived.Test.YtmdhckcoinhfpaaWl
import Derived.Outline
namespace Go.Proofs.Ytmdhckcoinhfpaa
open Go.RowKit

theorem info5' : (Try.prog.info? 5).map (fun i => (i.zero, i.size, i.bytes)) = some (some (.int .u8 0), 1, 1) := info5
/-- How much of sector i is kept. -/
def keepK (F : List UInt8) (nf i : Nat) : Nat := if i < nf ∧ (F.getD (i * 2) 0).toNat % 3 = 2 then (F.getD (i * 2 + 1) 0).toNat else if i < nf ∧ (F.getD (i * 2) 0).toNat % 3 = 0 then 0 else 256
theorem keepK_le (F : List UInt8) (nf i : Nat) : keepK F nf i ≤ 256 := by
  unfold keepK
  have := (F.getD (i * 2 + 1) 0).toNat_lt
  split
  · omega
  · split <;> omega
/-- The elder log, lengthened with zeros. -/
def longX (X : List (List UInt8)) (k : Nat) : List (List UInt8) := X ++ List.replicate (k - X.length) (zs8 256)
theorem longX_start (X : List (List UInt8)) : longX X X.length = X := by simp [longX]
theorem longX_succ (X : List (List UInt8)) (k : Nat) (h : X.length ≤ k) : longX X (k + 1) = longX X k ++ [zs8 256] := by
  unfold longX
  rw [show k + 1 - X.length = (k - X.length) + 1 by omega, List.replicate_succ', List.append_assoc]
theorem longX_length (X : List (List UInt8)) (k : Nat) (h : X.length ≤ k) : (longX X k).length = k := by
  simp [longX]; omega
theorem nthB_longX (X : List (List UInt8)) (k j : Nat) (h : j < k) (hX : X.length ≤ k) : nthB (longX X k) j = if j < X.length then nthB X j else zs8 256 := by
  unfold longX
  rw [nthB_app]
  split
  · rfl
  · simp [nthB, List.getD, show j - X.length < k - X.length by omega]
/-- What stands where: the first i laid anew. -/
def curK (T : Nat → List UInt8) (X : List (List UInt8)) (i : Nat) : List (List UInt8) := (List.range X.length).map fun j => if j < i then T j else nthB X j
theorem curK_length (T : Nat → List UInt8) (X : List (List UInt8)) (i : Nat) : (curK T X i).length = X.length := by simp [curK]
theorem curK_zero (T : Nat → List UInt8) (X : List (List UInt8)) : curK T X 0 = X := by
  apply List.ext_getElem (by rw [curK_length])
  intro i h1 h2
  simp [curK, nthB, List.getD, h2]
theorem curK_at (T : Nat → List UInt8) (X : List (List UInt8)) (i j : Nat) (h : j < X.length) : nthB (curK T X i) j = if j < i then T j else nthB X j := by
  simp [nthB, curK, List.getD, h]
theorem curK_set (T : Nat → List UInt8) (X : List (List UInt8)) (i : Nat) : (curK T X i).set i (T i) = curK T X (i + 1) := by
  apply List.ext_getElem (by rw [List.length_set, curK_length, curK_length])
  intro j h1 h2
  rw [List.getElem_set]
  have hj : j < X.length := by rw [curK_length] at h2; exact h2
  by_cases h : i = j
  · subst h
    simp [curK]
  · rw [if_neg h]
    simp only [curK, List.getElem_map, List.getElem_range]
    by_cases h3 : j < i
    · rw [if_pos h3, if_pos (by omega)]
    · rw [if_neg h3, if_neg (by omega)]
set_option maxRecDepth 4000 in
set_option maxHeartbeats 8000000 in
theorem torn_out (A B C : Option Addr) (n c m d nf cf : Nat) (L M : List Tx) (w : World) (h : Rs w A n L) (h' : Rs w B m M) (hl : ¬ (lightB L 30 = true ∧ lightB M 30 = true) ∨ 40 < nf) :
    Calls Try.prog 5 #[.slice A n c, .slice B m d, .slice C nf cf] w fun r w' => r = .returned (.bool true) ∧ Below w.heap.size w w' := by
  have L1 := hide (light_any A n c 30 L w (by omega) h)
  have L2 := hide (light_any B m d 30 M w (by omega) h')
  have hq : lightB L 30 = false ∨ (lightB L 30 = true ∧ lightB M 30 = false) ∨ (lightB L 30 = true ∧ lightB M 30 = true ∧ 40 < nf) := by
    cases h1 : lightB L 30 <;> cases h2 : lightB M 30 <;> simp_all
  clear hl h h'
  rcases hq with h1 | ⟨h1, h2⟩ | ⟨h1, h2, h3⟩
  · rw [h1] at L1
    clear h1
    go_enter Try.func5, Try.ntmps5
    go_wp2_with (first
      | (go_at_call_of 7 (Value.slice A n c); refine L1.out.mono ?_; rintro r w1 ⟨rfl, rfl⟩)
      | (go_at_call 8; refine (awake_any _).mono ?_; rintro r w6 ⟨rfl, hb6⟩))
    go_ret
    exact ⟨rfl, hb6⟩
  · rw [h1] at L1
    rw [h2] at L2
    clear h1 h2
    go_enter Try.func5, Try.ntmps5
    go_wp2_with (first
      | (go_at_call_of 7 (Value.slice A n c); refine L1.out.mono ?_; rintro r w1 ⟨rfl, rfl⟩)
      | (go_at_call_of 7 (Value.slice B m d); refine L2.out.mono ?_; rintro r w1 ⟨rfl, rfl⟩)
      | (go_at_call 8; refine (awake_any _).mono ?_; rintro r w6 ⟨rfl, hb6⟩))
    go_ret
    exact ⟨rfl, hb6⟩
  · rw [h1] at L1
    rw [h2] at L2
    have d3 : decide (40 < (nf : Int)) = true := by simp; omega
    clear h1 h2 h3
    go_enter Try.func5, Try.ntmps5
    go_wp2_with (first
      | (go_at_call_of 7 (Value.slice A n c); refine L1.out.mono ?_; rintro r w1 ⟨rfl, rfl⟩)
      | (go_at_call_of 7 (Value.slice B m d); refine L2.out.mono ?_; rintro r w1 ⟨rfl, rfl⟩)
      | (go_at_call 8; refine (awake_any _).mono ?_; rintro r w6 ⟨rfl, hb6⟩))
    go_ret
    exact ⟨rfl, hb6⟩
set_option maxRecDepth 4000 in
set_option maxHeartbeats 8000000 in
theorem torn_pack (A B C : Option Addr) (n c m d nf cf : Nat) (L M : List Tx) (w : World) (hnc : n ≤ c) (hmd : m ≤ d) (h : Rs w A n L) (h' : Rs w B m M) (hl : lightB L 30 = true) (hm : lightB M 30 = true) (hf : nf ≤ 40) (he : ¬ (packE 7 0 L = 0 ∧ packE 8 0 M = 0)) :
    Calls Try.prog 5 #[.slice A n c, .slice B m d, .slice C nf cf] w fun r w' => r = .returned (.bool true) ∧ Below w.heap.size w w' := by
  have L1 := hide (light_any A n c 30 L w (by omega) h)
  have L2 := hide (light_any B m d 30 M w (by omega) h')
  rw [hl] at L1
  rw [hm] at L2
  have H := hide h
  have H2 := hide h'
  have hn30 : n ≤ 30 := by have := lightB_len hl; have := h.len; omega
  have hm30 : m ≤ 30 := by have := lightB_len hm; have := h'.len; omega
  have d3 : decide (40 < (nf : Int)) = false := by simp; omega
  have P1 := hide (fun w h => pack_any 7 0 A n c L w (by omega) hnc h (by omega))
  have P2 := hide (fun w h => pack_any 8 0 B m d M w (by omega) hmd h (by omega))
  unfold PackPost at P1 P2
  obtain ⟨E1, hE1⟩ : ∃ E, packE 7 0 L = E := ⟨_, rfl⟩
  obtain ⟨E2, hE2⟩ : ∃ E, packE 8 0 M = E := ⟨_, rfl⟩
  rw [hE1] at P1
  rw [hE2] at P2
  rw [hE1, hE2] at he
  have hcase : (E1 != 0) = true ∨ (E1 = 0 ∧ (E2 != 0) = true) := by
    by_cases h1 : E1 = 0
    · right
      exact ⟨h1, by rw [bne_iff_ne]; exact fun h2 => he ⟨h1, h2⟩⟩
    · left; rw [bne_iff_ne]; exact h1
  clear h h' hl hm hE1 hE2 he
  rcases hcase with d1 | ⟨rfl, d2⟩
  all_goals
    go_enter Try.func5, Try.ntmps5
    go_wp2_with (first
      | (go_at_call_of 7 (Value.slice A n c); refine L1.out.mono ?_; rintro r w1 ⟨rfl, rfl⟩)
      | (go_at_call_of 7 (Value.slice B m d); refine L2.out.mono ?_; rintro r w1 ⟨rfl, rfl⟩)
      | (go_at_call_of 9 (Value.slice A n c); refine (P1.out _ H.out).mono ?_; rintro r w1 ⟨A1, n1, c1, rfl, ho1, hb1⟩; have HB1 := hide hb1; clear ho1 hb1)
      | (go_at_call_of 9 (Value.slice B m d); refine (P2.out _ (H2.out.below HB1.out)).mono ?_; rintro r w2 ⟨A2, n2, c2, rfl, ho2, hb2⟩; have HB2 := hide (Below.then_ HB1.out hb2); clear ho2 hb2)
      | (go_at_call 8; refine (awake_any _).mono ?_; rintro r w6 ⟨rfl, hb6⟩))
    go_ret
    exact ⟨rfl, Below.then_ HB2.out hb6⟩
end Go.Proofs.Ytmdhckcoinhfpaa
