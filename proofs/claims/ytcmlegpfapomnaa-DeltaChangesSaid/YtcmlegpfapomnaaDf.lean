/- The closures' contracts whole; the walks of together. -/
import Derived.Test.YtcmlegpfapomnaaDe
namespace Go.Proofs.Ytcmlegpfapomnaa
open Go.RowKit
open Go.Op (bytesLess)

theorem clo34 (P : Nat) (W : World) (Out : List Ch) (x y : Option Ch) (p q : Option Addr) (hP : OutC W P Out) (hl : Out.length ≤ 500) (hx : CAt W p x) (hy : CAt W q y) (hne : x ≠ none ∨ y ≠ none) :
    Calls Try.prog 34 #[.pointer p, .pointer q, .pointer (some ⟨P, 0, none⟩)] W fun e W' => e = .returned (.bool (thenOk x y)) ∧ Below P W W' ∧ (thenOk x y = true → OutC W' P (Out ++ thenOut x y)) := by
  cases x with
  | none =>
    cases y with
    | none => exact absurd rfl (hne.elim id id)
    | some b =>
      have e : p = none := hx
      subst e
      exact (then_y P W Out b q hP hl hy).mono fun _ _ ⟨h1, h2, h3⟩ => ⟨h1, h2, fun _ => h3⟩
  | some a =>
    cases y with
    | none =>
      have e : q = none := hy
      subst e
      exact (then_x P W Out a p hP hl hx).mono fun _ _ ⟨h1, h2, h3⟩ => ⟨h1, h2, fun _ => h3⟩
    | some b =>
      cases hk : thenOk (some a) (some b)
      · exact (then_bad P W a p b q hx hy hk).mono fun _ _ ⟨h1, h2⟩ => ⟨h1, h2, fun h => by cases h⟩
      · exact (then_good P W Out a p b q hP hl hx hy hk).mono fun _ _ ⟨h1, h2, h3⟩ => ⟨h1, h2, fun _ => h3⟩
theorem clo36 (P : Nat) (W : World) (Out : List Pr) (x : Option Pr) (y : Option Ch) (p q : Option Addr) (hP : OutP W P Out) (hl : Out.length ≤ 500) (hx : PAt W p x) (hy : CAt W q y) (hne : x ≠ none ∨ y ≠ none) :
    Calls Try.prog 36 #[.pointer p, .pointer q, .pointer (some ⟨P, 0, none⟩)] W fun e W' => e = .returned (.bool (apOk x y)) ∧ Below P W W' ∧ (apOk x y = true → OutP W' P (Out ++ apOut x y)) := by
  have hPl : P ≤ W.heap.size := by obtain ⟨_, _, _, h, _⟩ := hP; exact Nat.le_of_lt h.lt
  have stay : ∀ W', W'.heap = W.heap → OutP W' P Out := fun W' hh => by
    obtain ⟨B, m, d, h1, h2⟩ := hP
    exact ⟨B, m, d, by unfold Vk; rw [hh]; exact h1, by unfold World.ownsRow; rw [hh]; exact h2⟩
  cases y with
  | none =>
    have e : q = none := hy
    subst e
    cases x with
    | none => exact hne.elim (fun h => (h rfl).elim) (fun h => (h rfl).elim)
    | some a => exact (ap_keep P W Out a p hP hl hx).mono fun _ _ ⟨h1, h2, h3⟩ => ⟨h1, h2, fun _ => h3⟩
  | some c =>
    cases x with
    | none =>
      have e : p = none := hx
      subst e
      cases hh : c.had
      · cases hs : c.has
        · exact (ap_skip_n P W c q hy hh hs).mono fun _ _ ⟨h1, h2, h3⟩ => ⟨by rw [h1]; simp [apOk, hh], h2, fun _ => by simpa [apOut, hs] using stay _ h3⟩
        · exact (ap_out_n P W Out c q hP hl hy hh hs).mono fun _ _ ⟨h1, h2, h3⟩ => ⟨by rw [h1]; simp [apOk, hh], h2, fun _ => by simpa [apOut, hs] using h3⟩
      · exact (ap_bad_n P W c q hy hh).mono fun _ _ ⟨h1, h2⟩ => ⟨by rw [h1]; simp [apOk, hh], h2, fun h => by simp [apOk, hh] at h⟩
    | some a =>
      cases hh : c.had
      · exact (ap_bad_s P W a p c q hx hy hh).mono fun _ _ ⟨h1, h2⟩ => ⟨by rw [h1]; simp [apOk, hh], h2, fun h => by simp [apOk, hh] at h⟩
      · cases hv : (a.v == c.was)
        · exact (ap_bad_v P W a p c q hx hy hh hv).mono fun _ _ ⟨h1, h2⟩ => ⟨by rw [h1]; simp [apOk, hh, hv], h2, fun h => by simp [apOk, hh, hv] at h⟩
        · cases hs : c.has
          · exact (ap_skip_s P W a p c q hx hy hh hv hs).mono fun _ _ ⟨h1, h2, h3⟩ => ⟨by rw [h1]; simp [apOk, hh, hv], h2, fun _ => by simpa [apOut, hs] using stay _ h3⟩
          · exact (ap_out_s P W Out a p c q hP hl hx hy hh hv hs).mono fun _ _ ⟨h1, h2, h3⟩ => ⟨by rw [h1]; simp [apOk, hh, hv], h2, fun _ => by simpa [apOut, hs] using h3⟩
/-- Two rising lists, key by key. -/
def mrg {A B : Type} (ka : A → Sx) (kb : B → Sx) : List A → List B → List (Option A × Option B)
  | [], [] => []
  | a :: xs, [] => (some a, none) :: mrg ka kb xs []
  | [], b :: ys => (none, some b) :: mrg ka kb [] ys
  | a :: xs, b :: ys => if Lib.compareBytes (ka a) (kb b) < 0 then (some a, none) :: mrg ka kb xs (b :: ys) else if Lib.compareBytes (ka a) (kb b) = 0 then (some a, some b) :: mrg ka kb xs ys else (none, some b) :: mrg ka kb (a :: xs) ys
  termination_by xs ys => xs.length + ys.length
/-- What is gathered, as long as all goes well. -/
def gath {A B C : Type} (ok : A → B → Bool) (out : A → B → List C) : List C → List (A × B) → Option (List C)
  | O, [] => some O
  | O, (x, y) :: l => if ok x y then gath ok out (O ++ out x y) l else none
theorem cmp_range (x y : Sx) : Lib.compareBytes x y = -1 ∨ Lib.compareBytes x y = 0 ∨ Lib.compareBytes x y = 1 := by
  induction x generalizing y with
  | nil => cases y <;> simp [Lib.compareBytes]
  | cons a x ih =>
    cases y with
    | nil => simp [Lib.compareBytes]
    | cons b y =>
      unfold Lib.compareBytes
      split
      · exact .inl rfl
      · split
        · exact .inr (.inr rfl)
        · exact ih y
end Go.Proofs.Ytcmlegpfapomnaa
