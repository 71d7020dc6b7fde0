/- The walks of strings.Compare and of whole. -/
import Derived.Test.YtcmlegpfapomnaaDa
namespace Go.Proofs.Ytcmlegpfapomnaa
open Go.RowKit
open Go.Op (bytesLess)

set_option maxRecDepth 100000 in
set_option maxHeartbeats 1000000 in
theorem cmp48 (a b : ByteArray) (w : World) : Calls Try.prog 48 #[.string a, .string b] w fun e w' => e = .returned (.int .i64 (Lib.compareBytes a.data.toList b.data.toList)) ∧ w = w' := by
  go_enter Try.func48, Try.ntmps48
  go_wp2
  rw [run_callFunc_extern Try.func49 (by kernel_rfl) (by kernel_rfl) (by kernel_rfl) (e := Extern.BytealgCompare.compare) (by kernel_rfl), Lib.run_compareString]
  simp only [Result.andThen]
  rw [Oper.upon_value]
  go_wp2
  go_ret
  exact ⟨rfl, rfl⟩
theorem cmp_any (x y : Sx) (w : World) : Calls Try.prog 46 #[.string ⟨x.toArray⟩, .string ⟨y.toArray⟩] w fun e w' => e = .returned (.int .i64 (Lib.compareBytes x y)) ∧ w = w' := by
  go_enter Try.func46, Try.ntmps46
  go_wp2_with (go_at_call 48; refine (cmp48 _ _ _).mono ?_; rintro e w' ⟨rfl, rfl⟩)
  go_ret
  exact ⟨rfl, rfl⟩
/-- Is a change one of a delta? -/
def wholeB (c : Ch) : Bool := if (c.had = false ∧ c.was ≠ []) ∨ (c.has = false ∧ c.now ≠ []) then false else (c.had != c.has) || !(c.was == c.now)
set_option maxHeartbeats 2000000 in
theorem whole_any (c : Ch) (w : World) : Calls Try.prog 31 #[chV c] w fun e w' => e = .returned (.bool (wholeB c)) ∧ Below w.heap.size w w' := by
  obtain ⟨k, was, now, had, has⟩ := c
  unfold chV
  dsimp only
  obtain ⟨q, hq⟩ : ∃ q, (was == now) = q := ⟨_, rfl⟩
  cases had <;> cases has <;> cases was <;> cases now <;> cases q
  all_goals first
    | (exfalso; simp at hq; done)
    | (
      have HQ := hide hq
      go_enter Try.func31, Try.ntmps31
      go_wp2_with fail
      go_ret
      refine ⟨?_, Below.al (Below.refl _ _) _⟩
      unfold wholeB
      simp [HQ.out]
      done)
end Go.Proofs.Ytcmlegpfapomnaa
