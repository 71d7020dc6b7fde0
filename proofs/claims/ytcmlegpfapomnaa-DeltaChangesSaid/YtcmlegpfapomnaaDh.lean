/- The walks of Check: its closure, IndexFunc, ContainsFunc. -/
import Derived.Test.YtcmlegpfapomnaaDc
namespace Go.Proofs.Ytcmlegpfapomnaa
open Go.RowKit
open Go.Op (bytesLess)

def badC (c : Ch) : Bool := !(wholeB c)
set_option maxHeartbeats 1000000 in
theorem bad_any (c : Ch) (w : World) : Calls Try.prog 39 #[chV c] w fun e w' => e = .returned (.bool (badC c)) ∧ Below w.heap.size w w' := by
  obtain ⟨q, hq⟩ : ∃ q, wholeB c = q := ⟨_, rfl⟩
  have W := hide (fun w => whole_any c w)
  rw [hq] at W
  have e : badC c = !q := by unfold badC; rw [hq]
  rw [e]
  have H0 := hide (Below.al (Below.refl w.heap.size w) (.cells (chC c).toArray 55))
  clear hq e
  unfold chV at W ⊢
  unfold chC at H0
  obtain ⟨k, was, now, had, has⟩ := c
  go_enter Try.func39, Try.ntmps39
  go_wp2_with (go_at_call 31; refine (W.out _).mono ?_; rintro r w1 ⟨rfl, hb1⟩)
  go_ret
  exact ⟨rfl, Below.then_ H0.out hb1⟩
/-- The first place of a bad one; -1: nowhere. -/
def idxC (L : List Ch) : Int := match L.findIdx? badC with | some k => (k : Int) | none => -1
theorem idxC_at {L : List Ch} {k : Nat} (hk : k < L.length) (hp : badC (nthC L k) = true) (hno : ∀ j, j < k → badC (nthC L j) = false) : idxC L = k := by
  have e : L.findIdx? badC = some k := by
    rw [List.findIdx?_eq_some_iff_getElem]
    refine ⟨hk, by rw [← hp]; simp [nthC, List.getD, hk], fun j hj => ?_⟩
    have := hno j hj
    have h2 : L[j]'(by omega) = nthC L j := by simp [nthC, List.getD, show j < L.length by omega]
    rw [h2, this]
    exact Bool.false_ne_true
  simp [idxC, e]
theorem idxC_none {L : List Ch} (hno : ∀ j, j < L.length → badC (nthC L j) = false) : idxC L = -1 := by
  have e : L.findIdx? badC = none := by
    rw [List.findIdx?_eq_none_iff]
    intro x hx
    obtain ⟨j, hj, rfl⟩ := List.getElem_of_mem hx
    have := hno j hj
    have h2 : L[j] = nthC L j := by simp [nthC, List.getD, hj]
    rw [h2]; exact this
  simp [idxC, e]
theorem idxC_any (L : List Ch) : decide (0 ≤ idxC L) = L.any badC := by
  unfold idxC
  cases h : L.findIdx? badC with
  | none =>
    rw [List.findIdx?_eq_none_iff] at h
    have : L.any badC = false := by rw [List.any_eq_false]; intro x hx; rw [h x hx]; exact Bool.false_ne_true
    rw [this]; rfl
  | some k =>
    obtain ⟨hk, hp, _⟩ := List.findIdx?_eq_some_iff_getElem.1 h
    have : L.any badC = true := List.any_eq_true.2 ⟨_, List.getElem_mem hk, hp⟩
    rw [this]; simp
set_option maxHeartbeats 1000000 in
theorem idx_bad (A : Option Addr) (n c : Nat) (L : List Ch) (w : World) (hn : n ≤ 1000) (h : Rch w A n L) :
    Calls Try.prog 47 #[.slice A n c, .func (.func 39) #[] #[]] w fun e w' => e = .returned (.int .i64 (idxC L)) ∧ Below w.heap.size w w' := by
  have H := hide h
  have HL := hide h.len
  clear h
  go_enter Try.func47, Try.ntmps47
  go_wp2_with fail
  go_loopw [5, 8] (fun _ i wr => ∃ k : Nat, k ≤ n ∧ i = .int .i64 k ∧ (∀ j, j < k → badC (nthC L j) = false) ∧ Below w.heap.size w wr) (fun _ i _ => n - (intOf i).toNat)
  case atStart => exact ⟨0, Nat.zero_le _, rfl, fun j hj => absurd hj (by omega), Below.refl _ _⟩
  case round =>
    obtain ⟨k, hk, rfl, hno, hbr⟩ := hrel
    have HB := hide hbr
    have HN := hide hno
    clear hno
    by_cases hlt : k < n
    · obtain ⟨b, o, rfl, hb, h0, h1, h2, h3, h4⟩ := (H.out.below hbr).at_ hlt
      have IS := hide (bad_any (nthC L k) wr)
      unfold chV at IS
      obtain ⟨q, hq⟩ : ∃ q, badC (nthC L k) = q := ⟨_, rfl⟩
      have HQ := hide hq
      rw [hq] at IS
      clear hbr hb hq
      cases q
      · go_wp2_with (go_at_call 39; refine IS.out.mono ?_; rintro r w1 ⟨rfl, hb1⟩)
        go_roundw
        case rel =>
          refine ⟨k + 1, by omega, by go_num, fun j hj => ?_, Below.then_ HB.out hb1⟩
          rcases Nat.lt_or_ge j k with h1 | h1
          · exact HN.out j h1
          · obtain rfl : j = k := by omega
            exact HQ.out
        case measure => simp [intOf]; omega
      · go_wp2_with (go_at_call 39; refine IS.out.mono ?_; rintro r w1 ⟨rfl, hb1⟩)
        go_ret
        exact ⟨by rw [idxC_at (by rw [HL.out]; exact hlt) HQ.out HN.out]; rfl, Below.then_ HB.out hb1⟩
    · obtain rfl : k = n := by omega
      go_wp2_with fail
      go_ret
      exact ⟨by rw [idxC_none (fun j hj => HN.out j (by rw [← HL.out]; exact hj))]; rfl, HB.out⟩
theorem has_bad (A : Option Addr) (n c : Nat) (L : List Ch) (w : World) (hn : n ≤ 1000) (h : Rch w A n L) :
    Calls Try.prog 38 #[.slice A n c, .func (.func 39) #[] #[]] w fun e w' => e = .returned (.bool (L.any badC)) ∧ Below w.heap.size w w' := by
  have I := hide (idx_bad A n c L w hn h)
  rw [← idxC_any]
  obtain ⟨q, hq⟩ : ∃ q, idxC L = q := ⟨_, rfl⟩
  rw [hq] at I ⊢
  clear hq h
  go_enter Try.func38, Try.ntmps38
  go_wp2_with (go_at_call 47; refine I.out.mono ?_; rintro r w1 ⟨rfl, hb1⟩)
  go_ret
  exact ⟨rfl, hb1⟩
/-- Are changes a delta; else what is wrong. -/
def chk (L : List Ch) : Int := if ris (L.map Ch.k) = false then 12 else if L.any badC = true then 4 else 0
set_option maxHeartbeats 1000000 in
theorem check_any (A : Option Addr) (n c : Nat) (L : List Ch) (w : World) (hn : n ≤ 1000) (h : Rch w A n L) :
    Calls Try.prog 13 #[.slice A n c] w fun e w' => e = .returned (.int .i64 (chk L)) ∧ Below w.heap.size w w' := by
  have H := hide h
  have HN := hide hn
  obtain ⟨R, hR⟩ : ∃ R, ris (L.map Ch.k) = R := ⟨_, rfl⟩
  obtain ⟨B, hB⟩ : ∃ B, L.any badC = B := ⟨_, rfl⟩
  obtain ⟨C, hC⟩ : ∃ C, chk L = C := ⟨_, rfl⟩
  have HR := hide hR
  have HB := hide hB
  have HC := hide hC
  rw [hC]
  clear h hn hR hB hC
  cases R <;> cases B
  all_goals
    go_enter Try.func13, Try.ntmps13
    go_wp2_with (first
      | (go_at_call 37
         refine (nthC_rising A n c L w HN.out H.out).mono ?_
         rintro r w1 ⟨rfl, hb1⟩
         have HB1 := hide hb1
         clear hb1
         rw [HR.out])
      | (go_at_call 38
         refine (has_bad A n c L w1 HN.out (H.out.below HB1.out)).mono ?_
         rintro r w2 ⟨rfl, hb2⟩
         have HB2 := hide (Below.then_ HB1.out hb2)
         clear hb2
         rw [HB.out]))
    go_ret
    exact ⟨by rw [← HC.out]; unfold chk; rw [HR.out, HB.out]; rfl, by first | exact HB2.out | exact HB1.out⟩
end Go.Proofs.Ytcmlegpfapomnaa
