/- What an argument of type []string hands over. No function of the program is named. -/
import Derived.Test.YtmdhckcoinhfpaaWa
import Derived.Test.YtmdhckcoinhfpaaOpen
import Derived.Deep.Strs
namespace Go.Proofs.Ytmdhckcoinhfpaa
open Go.RowKit Go.ChangeShapes Go.WideShapes Go.Deep

theorem open_rs {H : Type} {enc : TypeId × Value → H} {P : Program} {w : World} {base : Nat} {held : Bool} {t e : TypeId} {A : Option Addr} {n c fuel : Nat} {x : DataW H × List MemPlace} (ht : P.underlying t = some (.slice e)) (he : P.underlying e = some .string) (ce : P.cellsOf e = 1)
    (h : DataW.trod enc P w base (fun _ => true) held fuel t [.slice A n c] = some x) : ∃ L, Rs w A n L ∧ n ≤ c ∧ c ≤ maxLen := by
  rcases open_slice1 ht ce h with ⟨hcs, _⟩ | ⟨a, len, cap, m, f, V, D, Pl, hcs, _, hl, hm, hmm, _, hx⟩
  · simp only [List.cons.injEq, Value.slice.injEq, and_true] at hcs
    obtain ⟨rfl, rfl, rfl⟩ := hcs
    exact ⟨[], Rs.none_ _ _, Nat.le_refl _, Nat.zero_le _⟩
  · simp only [List.cons.injEq, Value.slice.injEq, and_true] at hcs
    obtain ⟨rfl, rfl, rfl⟩ := hcs
    simp only [if_true] at hmm
    subst hmm
    have each : ∀ i, i < n → ∃ s : ByteArray, V i = .string s := fun i hi => by
      obtain ⟨s, hs, _⟩ := DataW.trod_string he (hx i (by omega)).2
      exact ⟨s, by simpa using hs⟩
    obtain ⟨s, hs⟩ := choose_lt each
    refine ⟨(List.range n).map fun i => (s i).data.toList, ⟨by simp [st8], fun hp => ?_⟩, hl, hm⟩
    have hn : 0 < n := by simpa [st8] using hp
    obtain ⟨b, o, sp⟩ := a
    obtain rfl : sp = none := by simpa [Addr.add] using World.cell?_spot (hx 0 (by omega)).1
    refine ⟨b, o, rfl, fun j u hu => ?_⟩
    have hj : j < n := by have := (List.getElem?_eq_some_iff.1 hu).1; simpa [st8] using this
    simp [st8, hj] at hu
    subst hu
    rw [← add_plain, (hx j (by omega)).1, hs j hj]
end Go.Proofs.Ytmdhckcoinhfpaa
